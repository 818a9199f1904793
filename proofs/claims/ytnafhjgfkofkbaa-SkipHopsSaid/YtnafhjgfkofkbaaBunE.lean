/- Layer 11 (skip): the walk along the levels. -/
import Derived.Test.YtnafhjgfkofkbaaBunB
import Derived.Test.YtnafhjgfkofkbaaBunD
import Derived.Test.YtnafhjgfkofkbaaBunA
import Derived.Deep.LoopGhost
/- The plain law of layer 11 (skip): versions in their order, and nodes; the link of a level is the first node behind that is that high. No program is in sight here. -/
namespace Go.Proofs.Ytnafhjgfkofkbaa
set_option linter.unusedVariables false
set_option linter.unusedSimpArgs false
open Go.RowKit Ikey Varint
open Go.Op (bytesLess)
/-- what is sought -/
structure Vr where
  key : List UInt8
  seq : Int
  kind : Int
/-- a version and its value -/
structure Ce where
  key : List UInt8
  seq : Nat
  kind : Nat
  val : List UInt8
def Ce.vr (c : Ce) : Vr := ⟨c.key, c.seq, c.kind⟩
def vless (a b : Vr) : Bool := lessF a.key a.seq a.kind b.key b.seq b.kind
theorem vless_iff (a b : Vr) : vless a b = true ↔ bytesLess a.key b.key = true ∨ (a.key = b.key ∧ (b.seq < a.seq ∨ (a.seq = b.seq ∧ b.kind < a.kind))) := by
  unfold vless lessF
  by_cases h1 : a.key = b.key
  · rw [if_neg (by simp [h1]), h1, bl_irr]
    by_cases h2 : a.seq = b.seq
    · rw [if_neg (by simp [h2])]
      simp [h2]
    · rw [if_pos h2]
      simp [h2]
  · rw [if_pos h1]
    simp [h1]
theorem vless_irr (a : Vr) : vless a a = false := less_irr _ _ _
theorem vless_trans {a b c : Vr} (h : vless a b = true) (k : vless b c = true) : vless a c = true := by
  rw [vless_iff] at *
  rcases h with h | ⟨h1, h2⟩
  · rcases k with k | ⟨k1, k2⟩
    · exact .inl (bl_trans h k)
    · exact .inl (k1 ▸ h)
  · rcases k with k | ⟨k1, k2⟩
    · exact .inl (h1 ▸ k)
    · exact .inr ⟨h1.trans k1, by omega⟩
theorem vless_tri {a b : Vr} (h : a ≠ b) : vless a b = !(vless b a) := less_tri (fun ⟨h1, h2, h3⟩ => h (by obtain ⟨_, _, _⟩ := a; obtain ⟨_, _, _⟩ := b; simp_all))
theorem vless_asymm {a b : Vr} (h : vless a b = true) : vless b a = false := by
  cases h2 : vless b a with
  | false => rfl
  | true => have := vless_trans h h2; rw [vless_irr] at this; cases this
/-- a node: where it lies, how many levels see it, how many links it has, its version and its value -/
structure Nd where
  off : Nat
  size : Nat
  h : Nat
  t : Nat
  c : Ce
/-- the first node of a row that has a level -/
def firstN (k : Nat) (r : List Nd) : Option Nd := r.find? fun n => decide (k < n.h)
/-- where it lies: a link of that level -/
def linkF : Option Nd → Nat × Nat
  | some n => (n.off, n.size)
  | none => (0, 0)
/-- the last node of a row that has a level -/
def lastN (k : Nat) (r : List Nd) : Option Nd := firstN k r.reverse
theorem firstN_append (k : Nat) (a b : List Nd) : firstN k (a ++ b) = (firstN k a).or (firstN k b) := by
  unfold firstN
  rw [List.find?_append]
theorem firstN_cons (k : Nat) (x : Nd) (b : List Nd) : firstN k (x :: b) = if k < x.h then some x else firstN k b := by
  unfold firstN
  rw [List.find?_cons]
  by_cases h : k < x.h <;> simp [h]
/-- a node that is put in: the link of a level is another one only where none of that level lies between -/
theorem firstN_put (k : Nat) (a b : List Nd) (x : Nd) : firstN k (a ++ x :: b) = if (firstN k a).isNone = true ∧ k < x.h then some x else firstN k (a ++ b) := by
  rw [firstN_append, firstN_append, firstN_cons]
  cases h : firstN k a with
  | some n => simp
  | none => by_cases hk : k < x.h <;> simp [hk]
theorem lastN_none {k : Nat} {r : List Nd} : lastN k r = none ↔ ∀ n ∈ r, n.h ≤ k := by
  unfold lastN firstN
  rw [List.find?_eq_none]
  simp
theorem firstN_none {k : Nat} {r : List Nd} : firstN k r = none ↔ ∀ n ∈ r, n.h ≤ k := by
  unfold firstN
  rw [List.find?_eq_none]
  simp
theorem firstN_some {k : Nat} {r : List Nd} {x : Nd} (h : firstN k r = some x) : ∃ a b, r = a ++ x :: b ∧ k < x.h ∧ ∀ n ∈ a, n.h ≤ k := by
  unfold firstN at h
  rw [List.find?_eq_some_iff_append] at h
  obtain ⟨h1, a, b, rfl, h2⟩ := h
  exact ⟨a, b, rfl, by simpa using h1, fun n hn => by simpa using h2 n hn⟩
theorem lastN_some {k : Nat} {r : List Nd} {x : Nd} (h : lastN k r = some x) : ∃ a b, r = a ++ x :: b ∧ k < x.h ∧ ∀ n ∈ b, n.h ≤ k := by
  obtain ⟨a, b, h1, h2, h3⟩ := firstN_some h
  refine ⟨b.reverse, a.reverse, ?_, h2, fun n hn => h3 n (by simpa using hn)⟩
  have := congrArg List.reverse h1
  simpa using this
theorem lastN_split {k : Nat} {a b : List Nd} {x : Nd} (h1 : k < x.h) (h2 : ∀ n ∈ b, n.h ≤ k) : lastN k (a ++ x :: b) = some x := by
  unfold lastN
  rw [List.reverse_append, List.reverse_cons, List.append_assoc, firstN_append, firstN_none.2 (fun n hn => h2 n (by simpa using hn))]
  simp [firstN_cons, h1]
/-- where a walk along a level stands: behind d, with nothing of that level left in r -/
theorem lastN_done {k : Nat} {d r : List Nd} (h : ∀ n ∈ r, n.h ≤ k) (hd : ∀ x, d.getLast? = some x → k < x.h) : lastN k (d ++ r) = d.getLast? := by
  rcases List.eq_nil_or_concat d with rfl | ⟨d', x, rfl⟩
  · exact lastN_none.2 (by simpa using h)
  · rw [List.concat_eq_append] at hd ⊢
    have hx := hd x (by simp)
    rw [List.append_assoc, List.singleton_append, lastN_split hx h]
    simp
/-- one step of such a walk -/
theorem step_done {k : Nat} {d r b : List Nd} {x : Nd} (p : Nd → Bool) (hr : ∀ n ∈ r, p n = true) (hb : ∀ n ∈ b, p n = false) (h : firstN k (r ++ b) = some x) :
    (p x = true → ∃ a c, r = a ++ x :: c ∧ k < x.h ∧ (d ++ a ++ [x]).getLast? = some x ∧ d ++ r = (d ++ a ++ [x]) ++ c) ∧ (p x = false → ∀ n ∈ r, n.h ≤ k) := by
  rw [firstN_append] at h
  cases hf : firstN k r with
  | some y =>
    rw [hf] at h
    obtain rfl : y = x := by simpa using h
    obtain ⟨a, c, rfl, h1, _⟩ := firstN_some hf
    refine ⟨fun _ => ⟨a, c, rfl, h1, by simp, by simp⟩, fun hp => ?_⟩
    rw [hr y (by simp)] at hp
    cases hp
  | none =>
    rw [hf] at h
    have hx : firstN k b = some x := by simpa using h
    obtain ⟨a, c, rfl, _, _⟩ := firstN_some hx
    refine ⟨fun hp => ?_, fun _ => firstN_none.1 hf⟩
    rw [hb x (by simp)] at hp
    cases hp
/-- a link's bytes, a node's links, a node's bytes -/
def ptrB (q : Nat × Nat) : List UInt8 := bytesN 4 q.1 ++ bytesN 4 q.2
def linksB (f : Nat → Nat × Nat) : Nat → List UInt8
  | 0 => []
  | n + 1 => linksB f n ++ ptrB (f n)
def headB (t : Nat) (c : Ce) : List UInt8 := UInt8.ofNat t :: (bytesN 2 (c.key.length + 8) ++ bytesN 2 c.val.length)
def restB (c : Ce) : List UInt8 := encF c.key c.seq c.kind ++ c.val
def nodeB (t : Nat) (f : Nat → Nat × Nat) (c : Ce) : List UInt8 := headB t c ++ (linksB f t ++ restB c)
theorem ptrB_len (q : Nat × Nat) : (ptrB q).length = 8 := by simp [ptrB, bytesN_len]
theorem linksB_len (f : Nat → Nat × Nat) : ∀ n, (linksB f n).length = 8 * n
  | 0 => rfl
  | n + 1 => by rw [linksB, List.length_append, linksB_len f n, ptrB_len]; omega
theorem headB_len (t : Nat) (c : Ce) : (headB t c).length = 5 := by simp [headB, bytesN_len]
theorem restB_len (c : Ce) : (restB c).length = c.key.length + 8 + c.val.length := by simp [restB, enc_len]
theorem nodeB_len (t : Nat) (f : Nat → Nat × Nat) (c : Ce) : (nodeB t f c).length = 5 + 8 * t + (c.key.length + 8 + c.val.length) := by
  rw [nodeB, List.length_append, List.length_append, headB_len, linksB_len, restB_len]; omega
theorem linksB_congr {f g : Nat → Nat × Nat} : ∀ n, (∀ k, k < n → f k = g k) → linksB f n = linksB g n
  | 0, _ => rfl
  | n + 1, h => by rw [linksB, linksB, linksB_congr n (fun k hk => h k (by omega)), h n (by omega)]
theorem nodeB_congr {f g : Nat → Nat × Nat} {t : Nat} (c : Ce) (h : ∀ k, k < t → f k = g k) : nodeB t f c = nodeB t g c := by
  unfold nodeB; rw [linksB_congr t h]
/-- the links, parted at one -/
theorem linksB_split (f : Nat → Nat × Nat) : ∀ n k, k < n → ∃ r, linksB f n = linksB f k ++ (ptrB (f k) ++ r) ∧ ∀ q, linksB (fun i => if i = k then q else f i) n = linksB f k ++ (ptrB q ++ r)
  | 0, k, h => by omega
  | n + 1, k, h => by
    by_cases e : k = n
    · subst e
      refine ⟨[], by rw [linksB, List.append_nil], fun q => ?_⟩
      rw [linksB, if_pos rfl, List.append_nil, linksB_congr k (fun i hi => by rw [if_neg (by omega)])]
    · obtain ⟨r, h1, h2⟩ := linksB_split f n k (by omega)
      refine ⟨r ++ ptrB (f n), by rw [linksB, h1]; simp, fun q => ?_⟩
      rw [linksB, h2, if_neg (fun e2 => e e2.symm)]
      simp
theorem cut_mid (a b c : List UInt8) {n m : Nat} (hn : a.length = n) (hm : b.length = m) : ((a ++ (b ++ c)).drop n).take m = b := by
  subst hn hm
  rw [List.drop_left, List.take_left]
theorem nodeB_link {t : Nat} (f : Nat → Nat × Nat) (c : Ce) {k : Nat} (h : k < t) :
    ((nodeB t f c).drop (5 + 8 * k)).take 4 = bytesN 4 (f k).1 ∧ ((nodeB t f c).drop (5 + 8 * k + 4)).take 4 = bytesN 4 (f k).2 := by
  obtain ⟨r, h1, _⟩ := linksB_split f t k h
  constructor
  · have e : nodeB t f c = (headB t c ++ linksB f k) ++ (bytesN 4 (f k).1 ++ (bytesN 4 (f k).2 ++ (r ++ restB c))) := by
      unfold nodeB; rw [h1, ptrB]; simp
    rw [e]
    exact cut_mid _ _ _ (by rw [List.length_append, headB_len, linksB_len]) (bytesN_len _ _)
  · have e : nodeB t f c = (headB t c ++ linksB f k ++ bytesN 4 (f k).1) ++ (bytesN 4 (f k).2 ++ (r ++ restB c)) := by
      unfold nodeB; rw [h1, ptrB]; simp
    rw [e]
    exact cut_mid _ _ _ (by rw [List.length_append, List.length_append, headB_len, linksB_len, bytesN_len]) (bytesN_len _ _)
theorem nodeB_put {t : Nat} (f : Nat → Nat × Nat) (c : Ce) {k : Nat} (h : k < t) (q : Nat × Nat) :
    (nodeB t f c).take (5 + 8 * k) ++ ptrB q ++ (nodeB t f c).drop (5 + 8 * k + (ptrB q).length) = nodeB t (fun i => if i = k then q else f i) c := by
  obtain ⟨r, h1, h2⟩ := linksB_split f t k h
  have e : nodeB t f c = (headB t c ++ linksB f k) ++ (ptrB (f k) ++ (r ++ restB c)) := by
    unfold nodeB; rw [h1]; simp
  have e2 : nodeB t (fun i => if i = k then q else f i) c = (headB t c ++ linksB f k) ++ (ptrB q ++ (r ++ restB c)) := by
    unfold nodeB; rw [h2]; simp
  have hl : (headB t c ++ linksB f k).length = 5 + 8 * k := by rw [List.length_append, headB_len, linksB_len]
  rw [e, e2, List.take_left' hl, ptrB_len]
  have : ((headB t c ++ linksB f k) ++ (ptrB (f k) ++ (r ++ restB c))).drop (5 + 8 * k + 8) = r ++ restB c := by
    rw [← List.append_assoc]
    exact List.drop_left' (by rw [List.length_append, hl, ptrB_len])
  rw [this]
  simp
theorem nodeB_parts (t : Nat) (f : Nat → Nat × Nat) (c : Ce) :
    (nodeB t f c)[0]? = some (UInt8.ofNat t) ∧ ((nodeB t f c).drop 1).take 2 = bytesN 2 (c.key.length + 8) ∧ ((nodeB t f c).drop 3).take 2 = bytesN 2 c.val.length ∧
    ((nodeB t f c).drop (5 + 8 * t)).take (c.key.length + 8) = encF c.key c.seq c.kind ∧ ((nodeB t f c).drop (5 + 8 * t + (c.key.length + 8))).take c.val.length = c.val := by
  refine ⟨by simp [nodeB, headB], ?_, ?_, ?_, ?_⟩
  · have e : nodeB t f c = [UInt8.ofNat t] ++ (bytesN 2 (c.key.length + 8) ++ (bytesN 2 c.val.length ++ (linksB f t ++ restB c))) := by unfold nodeB headB; simp
    rw [e]; exact cut_mid _ _ _ rfl (bytesN_len _ _)
  · have e : nodeB t f c = (UInt8.ofNat t :: bytesN 2 (c.key.length + 8)) ++ (bytesN 2 c.val.length ++ (linksB f t ++ restB c)) := by unfold nodeB headB; simp
    rw [e]; exact cut_mid _ _ _ (by simp [bytesN_len]) (bytesN_len _ _)
  · have e : nodeB t f c = (headB t c ++ linksB f t) ++ (encF c.key c.seq c.kind ++ c.val) := by unfold nodeB restB; simp
    rw [e]; exact cut_mid _ _ _ (by rw [List.length_append, headB_len, linksB_len]) (enc_len _ _ _)
  · have e : nodeB t f c = (headB t c ++ linksB f t ++ encF c.key c.seq c.kind) ++ (c.val ++ []) := by unfold nodeB restB; simp
    rw [e]; exact cut_mid _ _ _ (by rw [List.length_append, List.length_append, headB_len, linksB_len, enc_len]) rfl
end Go.Proofs.Ytnafhjgfkofkbaa
/- Layer 11 (skip): a list's nodes in a pool; what a new node and a new link change. No program is in sight here. -/
namespace Go.Proofs.Ytnafhjgfkofkbaa
set_option linter.unusedVariables false
set_option linter.unusedSimpArgs false
open Go.RowKit Ikey Varint
/-- a node's piece -/
def nh (r gen : Nat) (x : Nd) : Hd := ⟨(r : Int), (gen : Int), (x.off : Int), (x.size : Int)⟩
structure NdOk (x : Nd) : Prop where
  t1 : 1 ≤ x.t
  t2 : x.t ≤ 12
  ht : x.h ≤ x.t
  ok : okV x.c.key x.c.seq x.c.kind = true
  vl : x.c.val.length ≤ 1000
  sz : x.size = 5 + 8 * x.t + (x.c.key.length + 8 + x.c.val.length)
def Apt (a b : Nd) : Prop := a.off + a.size ≤ b.off ∨ b.off + b.size ≤ a.off
def Asc (a b : Nd) : Prop := vless a.c.vr b.c.vr = true
/-- the nodes of a list, in a pool -/
structure SkSt (p : PoolF) (r gen : Nat) (hd : Nat → Nat × Nat) (N : List Nd) : Prop where
  hr : r < 256
  there : (landAt p r).there = true
  sz : 2048 ≤ p.size
  heads : ∀ k, k < 12 → hd k = linkF (firstN k N)
  node : ∀ x ∈ N, NdOk x ∧ Pc p (nh r gen x) r x.off x.size
  ld : ∀ a x b, N = a ++ x :: b → loadF p (nh r gen x) = (nodeB x.t (fun k => linkF (firstN k b)) x.c, 0)
  sorted : N.Pairwise Asc
  apart : N.Pairwise Apt
/-- what a list's call leaves of a pool for others -/
structure Kp (r : Nat) (p p' : PoolF) : Prop where
  size : p'.size = p.size
  len : p'.bytes.length = p.bytes.length
  land : ∀ j, j ≠ r → landAt p' j = landAt p j
  there : (landAt p' r).there = (landAt p r).there
  gen : (landAt p' r).gen = (landAt p r).gen
  pcs : ∀ y j o l, j ≠ r → Pc p y j o l → Pc p' y j o l ∧ loadF p' y = loadF p y
theorem Kp.refl (r : Nat) (p : PoolF) : Kp r p p := ⟨rfl, rfl, fun _ _ => rfl, rfl, rfl, fun _ _ _ _ _ h => ⟨h, rfl⟩⟩
theorem Kp.trans {r : Nat} {p q s : PoolF} (h : Kp r p q) (k : Kp r q s) : Kp r p s :=
  ⟨k.size.trans h.size, k.len.trans h.len, fun j hj => (k.land j hj).trans (h.land j hj), k.there.trans h.there, k.gen.trans h.gen, fun y j o l hj hy => by
    obtain ⟨h1, h2⟩ := h.pcs y j o l hj hy
    obtain ⟨k1, k2⟩ := k.pcs y j o l hj h1
    exact ⟨k1, k2.trans h2⟩⟩
theorem split3 {α : Type} : ∀ {A B a b : List α} {x y : α}, A ++ x :: B = a ++ y :: b → (∃ c, A = a ++ y :: c ∧ b = c ++ x :: B) ∨ (A = a ∧ x = y ∧ B = b) ∨ (∃ c, B = c ++ y :: b ∧ a = A ++ x :: c)
  | [], B, [], b, x, y, h => by
    rw [List.nil_append, List.nil_append] at h
    exact .inr (.inl ⟨rfl, (List.cons.inj h).1, (List.cons.inj h).2⟩)
  | [], B, z :: a, b, x, y, h => by
    rw [List.nil_append, List.cons_append] at h
    obtain ⟨rfl, h2⟩ := List.cons.inj h
    exact .inr (.inr ⟨a, h2, rfl⟩)
  | z :: A, B, [], b, x, y, h => by
    rw [List.nil_append, List.cons_append] at h
    obtain ⟨rfl, h2⟩ := List.cons.inj h
    exact .inl ⟨A, rfl, h2.symm⟩
  | z :: A, B, v :: a, b, x, y, h => by
    rw [List.cons_append, List.cons_append] at h
    obtain ⟨rfl, h2⟩ := List.cons.inj h
    rcases split3 h2 with ⟨c, h3, h4⟩ | ⟨h3, h4, h5⟩ | ⟨c, h3, h4⟩
    · exact .inl ⟨c, by rw [h3]; rfl, h4⟩
    · exact .inr (.inl ⟨by rw [h3], h4, h5⟩)
    · exact .inr (.inr ⟨c, h3, by rw [h4]; rfl⟩)
theorem pair_mid {α : Type} {R : α → α → Prop} {A B : List α} {x : α} (h : (A ++ B).Pairwise R) (h1 : ∀ a ∈ A, R a x) (h2 : ∀ b ∈ B, R x b) : (A ++ x :: B).Pairwise R := by
  rw [List.pairwise_append] at h ⊢
  obtain ⟨a1, a2, a3⟩ := h
  refine ⟨a1, List.pairwise_cons.2 ⟨h2, a2⟩, fun a ha b hb => ?_⟩
  rcases List.mem_cons.1 hb with rfl | hb
  · exact h1 a ha
  · exact a3 a ha b hb
theorem pair_at {α : Type} {R : α → α → Prop} {A B : List α} {x : α} (h : (A ++ x :: B).Pairwise R) : (∀ a ∈ A, R a x) ∧ ∀ b ∈ B, R x b := by
  rw [List.pairwise_append, List.pairwise_cons] at h
  exact ⟨fun a ha => h.2.2 a ha x List.mem_cons_self, h.2.1.1⟩
theorem pair_out {α : Type} {R : α → α → Prop} {A B : List α} {x : α} (h : (A ++ x :: B).Pairwise R) : (A ++ B).Pairwise R := by
  rw [List.pairwise_append, List.pairwise_cons] at h
  rw [List.pairwise_append]
  exact ⟨h.1, h.2.1.2, fun a ha b hb => h.2.2 a ha b (List.mem_cons_of_mem _ hb)⟩
/-- a node that is seen by one level more -/
def Nd.up (x : Nd) : Nd := { x with h := x.h + 1 }
theorem put_link (k : Nat) (c B : List Nd) (x : Nd) : linkF (firstN k (c ++ x.up :: B)) = if k = x.h ∧ ∀ n ∈ c, n.h ≤ k then (x.off, x.size) else linkF (firstN k (c ++ x :: B)) := by
  have hu : x.up.h = x.h + 1 := rfl
  rw [firstN_put, firstN_put, hu]
  by_cases hn : (firstN k c).isNone = true
  · have hn' : firstN k c = none := by simpa using hn
    have hall := firstN_none.1 hn'
    by_cases hk : k = x.h
    · have e1 : (firstN k c).isNone = true ∧ k < x.h + 1 := ⟨hn, by omega⟩
      have e2 : k = x.h ∧ ∀ n ∈ c, n.h ≤ k := ⟨hk, hall⟩
      rw [if_pos e1, if_pos e2]
      rfl
    · have e2 : ¬ (k = x.h ∧ ∀ n ∈ c, n.h ≤ k) := fun e => hk e.1
      rw [if_neg e2]
      by_cases hlt : k < x.h
      · have e1 : (firstN k c).isNone = true ∧ k < x.h + 1 := ⟨hn, by omega⟩
        have e3 : (firstN k c).isNone = true ∧ k < x.h := ⟨hn, hlt⟩
        rw [if_pos e1, if_pos e3]
        rfl
      · have e1 : ¬ ((firstN k c).isNone = true ∧ k < x.h + 1) := fun e => by have := e.2; omega
        have e3 : ¬ ((firstN k c).isNone = true ∧ k < x.h) := fun e => hlt e.2
        rw [if_neg e1, if_neg e3]
  · have e2 : ¬ (k = x.h ∧ ∀ n ∈ c, n.h ≤ k) := fun e => hn (by rw [firstN_none.2 e.2]; rfl)
    have e1 : ¬ ((firstN k c).isNone = true ∧ k < x.h + 1) := fun e => hn e.1
    have e3 : ¬ ((firstN k c).isNone = true ∧ k < x.h) := fun e => hn e.1
    rw [if_neg e1, if_neg e2, if_neg e3]
theorem hide_link (k : Nat) (c B : List Nd) (x : Nd) (h : x.h = 0) : firstN k (c ++ x :: B) = firstN k (c ++ B) := by
  rw [firstN_put, if_neg (fun ⟨_, e⟩ => by omega)]
/-- what Alloc leaves -/
theorem alloc_land {p p' : PoolF} (hp : PoolOk p) {r : Nat} {n a : Int} {y : Hd} {e : Nat} (he : allocF p (r : Int) n a = (y, e, p')) : ∀ j, j ≠ r → landAt p' j = landAt p j := by
  intro j hj
  unfold allocF at he
  cases hl : landF p (r : Int) with
  | none =>
    rw [hl] at he
    simp only [Prod.mk.injEq] at he
    rw [← he.2.2]
  | some i =>
    obtain ⟨e0, hi, hth⟩ := landF_some hl
    have hir : r = i := by omega
    subst hir
    rw [hl] at he
    simp only at he
    split at he
    · simp only [Prod.mk.injEq] at he; rw [← he.2.2]
    · split at he
      · split at he
        · simp only [Prod.mk.injEq] at he; rw [← he.2.2]
        · rename_i s _
          simp only [Prod.mk.injEq] at he
          rw [← he.2.2, landAt_fill (grow_lands hp r s) hi, if_neg (fun x => hj x.symm), landAt_grow hp hi, if_neg (fun x => hj x.symm)]
      · simp only [Prod.mk.injEq] at he
        rw [← he.2.2, landAt_fill hp.ln hi, if_neg (fun x => hj x.symm)]
theorem filter_set_le : ∀ (l : List Bool) (s : Nat), (l.filter (!·)).length ≤ ((l.set s true).filter (!·)).length + 1
  | [], s => by simp
  | b :: l, 0 => by cases b <;> simp
  | b :: l, s + 1 => by
    have := filter_set_le l s
    cases b <;> simp [List.set_cons_succ] <;> omega
theorem alloc_count {p p' : PoolF} {r n a : Int} {y : Hd} {e : Nat} (he : allocF p r n a = (y, e, p')) : countF p ≤ countF p' + 1 := by
  unfold allocF at he
  split at he
  · simp only [Prod.mk.injEq] at he; rw [← he.2.2]; omega
  · simp only at he
    split at he
    · simp only [Prod.mk.injEq] at he; rw [← he.2.2]; omega
    · split at he
      · split at he
        · simp only [Prod.mk.injEq] at he; rw [← he.2.2]; omega
        · simp only [Prod.mk.injEq] at he
          rw [← he.2.2]
          exact filter_set_le _ _
      · simp only [Prod.mk.injEq] at he; rw [← he.2.2]; exact Nat.le_succ _
theorem idle_count {p : PoolF} (h : idleF p = none) : countF p = 0 := by
  have h1 := idleF_none h
  unfold countF
  rw [List.filter_eq_nil_iff.2]
  · rfl
  · intro b hb
    obtain ⟨j, hj, e⟩ := List.getElem_of_mem hb
    have := h1 j hj
    rw [List.getD_eq_getElem?_getD, List.getElem?_eq_getElem hj] at this
    simp only [Option.getD_some] at this
    rw [← e, this]
    decide
theorem nd_size {x : Nd} (h : NdOk x) : 14 ≤ x.size ∧ x.size ≤ 1173 ∧ 1 ≤ x.c.key.length ∧ x.c.key.length ≤ 64 := by
  have h1 := h.t1
  have h2 := h.t2
  have h3 := h.vl
  have h4 := h.sz
  obtain ⟨k1, k2, _⟩ := okV_of h.ok
  have : 1 ≤ x.c.key.length := by
    cases hk : x.c.key with
    | nil => exact absurd hk k1
    | cons a l => simp
  omega
section
variable {p : PoolF} {r gen : Nat} {hd : Nat → Nat × Nat} {N A B : List Nd}
theorem SkSt.gen_at (h : SkSt p r gen hd N) {x : Nd} (hx : x ∈ N) : gen = (landAt p r).gen := by
  have := (h.node x hx).2.gen
  simp only [nh] at this
  omega
theorem SkSt.off_lt (hp : PoolOk p) (h : SkSt p r gen hd N) {x : Nd} (hx : x ∈ N) : x.off + x.size ≤ 268435456 := by
  have h1 := (h.node x hx).2.fit
  have h2 := (hp.ld r h.hr).fill_le
  have h3 := (hp.ld r h.hr).cap hp
  omega
/-- others' calls -/
theorem SkSt.kept {r' : Nat} {p' : PoolF} (h : SkSt p r gen hd N) (k : Kp r' p p') (hne : r ≠ r') : SkSt p' r gen hd N := by
  refine ⟨h.hr, by rw [k.land r hne]; exact h.there, by rw [k.size]; exact h.sz, h.heads, fun x hx => ⟨(h.node x hx).1, (k.pcs _ _ _ _ hne (h.node x hx).2).1⟩, fun a x b e => ?_, h.sorted, h.apart⟩
  rw [(k.pcs _ _ _ _ hne (h.node x (by rw [e]; simp)).2).2]
  exact h.ld a x b e
/-- a new node, which no level sees -/
theorem SkSt.alloc (hp : PoolOk p) (h : SkSt p r gen hd (A ++ B)) (hi : 1 ≤ countF p) {t : Nat} {c : Ce} (t1 : 1 ≤ t) (t2 : t ≤ 12) (hok : okV c.key c.seq c.kind = true) (hv : c.val.length ≤ 1000)
    (hA : ∀ x ∈ A, vless x.c.vr c.vr = true) (hB : ∀ x ∈ B, vless c.vr x.c.vr = true) :
    ∃ (o : Nat) (p1 p2 : PoolF), allocF p (r : Int) ((nodeB t (fun k => linkF (firstN k B)) c).length : Nat) 8 = (nh r (landAt p r).gen ⟨o, (nodeB t (fun k => linkF (firstN k B)) c).length, 0, t, c⟩, 0, p1) ∧
      storeF p1 (nh r (landAt p r).gen ⟨o, (nodeB t (fun k => linkF (firstN k B)) c).length, 0, t, c⟩) 0 (nodeB t (fun k => linkF (firstN k B)) c) = (0, p2) ∧
      SkSt p2 r (landAt p r).gen hd (A ++ ⟨o, (nodeB t (fun k => linkF (firstN k B)) c).length, 0, t, c⟩ :: B) ∧ Kp r p p2 ∧ countF p ≤ countF p2 + 1 := by
  obtain ⟨n, hn⟩ : ∃ n, n = (nodeB t (fun k => linkF (firstN k B)) c).length := ⟨_, rfl⟩
  have hnl := nodeB_len t (fun k => linkF (firstN k B)) c
  rw [← hn] at hnl ⊢
  have hxok : ∀ o, NdOk ⟨o, n, 0, t, c⟩ := fun o => ⟨t1, t2, Nat.zero_le _, hok, hv, hnl⟩
  obtain ⟨s1, s2, s3, s4⟩ := nd_size (hxok 0)
  simp only at s1 s2 s3 s4
  have hl : landF p (r : Int) = some r := landF_of h.hr h.there
  have hsz := h.sz
  rcases alloc_cases (n := (n : Int)) (a := 8) hl (by omega) (by omega) (by decide) with ⟨y, p1, he⟩ | ⟨_, he⟩
  case inr => rw [idle_count he] at hi; omega
  have hp1 : PoolOk p1 := by have := alloc_ok hp (r : Int) n 8; rw [he] at this; exact this
  obtain ⟨i, o, hi2, hpc, _, hfo, hsz1, hbl1, hgr, hold, hfl, _⟩ := alloc_pcs hp he
  rw [hl] at hi2
  obtain rfl : r = i := Option.some.inj hi2
  rw [Int.toNat_natCast] at hpc hfl
  have hg1 : (landAt p1 r).gen = (landAt p r).gen := (hgr r h.hr).gen
  have hy : y = nh r (landAt p r).gen ⟨o, n, 0, t, c⟩ := by
    have e1 := hpc.reg; have e2 := hpc.gen; have e3 := hpc.off; have e4 := hpc.len
    rw [hg1] at e2
    obtain ⟨a1, a2, a3, a4⟩ := y
    simp only at e1 e2 e3 e4
    subst e1 e2 e3 e4
    rfl
  rw [hy] at he hpc
  obtain ⟨p2, hs, hsz2, hbl2, htk2, hln2, hld2, hk2⟩ := store_pcs hp1 hpc 0 (nodeB t (fun k => linkF (firstN k B)) c) (by rw [← hn]; omega)
  have hA2 : ∀ j, landAt p2 j = landAt p1 j := fun j => by unfold landAt; rw [hln2]
  have hload : loadF p2 (nh r (landAt p r).gen ⟨o, n, 0, t, c⟩) = (nodeB t (fun k => linkF (firstN k B)) c, 0) := by
    rw [hld2, List.take_zero, List.nil_append, Nat.zero_add, List.drop_eq_nil_of_le (by rw [hpc.load_len hp1]; omega), List.append_nil]
  have hgn : ∀ x ∈ A ++ B, nh r gen x = nh r (landAt p r).gen x := fun x hx => by rw [← h.gen_at hx]
  have hkeep : ∀ x ∈ A ++ B, Pc p2 (nh r (landAt p r).gen x) r x.off x.size ∧ loadF p2 (nh r (landAt p r).gen x) = loadF p (nh r gen x) ∧ x.off + x.size ≤ o := fun x hx => by
    have hx1 := (h.node x hx).2
    have hf := hx1.fit
    obtain ⟨q1, q2⟩ := hold _ _ _ _ hx1
    obtain ⟨q3, q4⟩ := hk2 _ _ _ _ q1
    rw [← hgn x hx]
    exact ⟨q3, by rw [q4 (.inr (.inr (by omega))), q2], by omega⟩
  have hland := alloc_land hp he
  refine ⟨o, p1, p2, he, hs, ⟨h.hr, ?_, by rw [hsz2, hsz1]; exact hsz, fun k hk => ?_, fun x hx => ?_, fun a x b e => ?_, ?_, ?_⟩, ⟨by rw [hsz2, hsz1], by rw [hbl2, hbl1], fun j hj => by rw [hA2, hland j hj], by rw [hA2, (hgr r h.hr).there], by rw [hA2, hg1], fun z j o2 l hj hz => ?_⟩, ?_⟩
  · rw [hA2, (hgr r h.hr).there]; exact h.there
  · rw [hide_link _ _ _ _ rfl]; exact h.heads k hk
  · rw [List.mem_append, List.mem_cons] at hx
    rcases hx with hx | rfl | hx
    · exact ⟨(h.node x (List.mem_append_left _ hx)).1, (hkeep x (List.mem_append_left _ hx)).1⟩
    · exact ⟨hxok o, (hk2 _ _ _ _ hpc).1⟩
    · exact ⟨(h.node x (List.mem_append_right _ hx)).1, (hkeep x (List.mem_append_right _ hx)).1⟩
  · rcases split3 e with ⟨c', e1, e2⟩ | ⟨e1, e2, e3⟩ | ⟨c', e1, e2⟩
    · have hx : x ∈ A ++ B := by rw [e1]; simp
      rw [(hkeep x hx).2.1, h.ld a x (c' ++ B) (by rw [e1]; simp), e2]
      simp only [Prod.mk.injEq, and_true]
      exact nodeB_congr _ (fun k _ => by rw [hide_link _ _ _ _ rfl])
    · subst e1 e2 e3
      exact hload
    · have hx : x ∈ A ++ B := by rw [e1]; simp
      rw [(hkeep x hx).2.1, h.ld (A ++ c') x b (by rw [e1]; simp)]
  · exact pair_mid h.sorted hA hB
  · exact pair_mid h.apart (fun a ha => .inl (hkeep a (List.mem_append_left _ ha)).2.2) (fun b hb => .inr (hkeep b (List.mem_append_right _ hb)).2.2)
  · obtain ⟨q1, q2⟩ := hold _ _ _ _ hz
    obtain ⟨q3, q4⟩ := hk2 _ _ _ _ q1
    exact ⟨q3, by rw [q4 (.inl (fun e => hj e.symm)), q2]⟩
  · have h1 := alloc_count he
    have h2 : countF p2 = countF p1 := by unfold countF; rw [htk2]
    omega
theorem all_other {k : Nat} {c : List Nd} {x z : Nd} (hz : z.t ≤ x.h) (hk : k < z.t) : ¬ (k = x.h ∧ ∀ n ∈ c, n.h ≤ k) := fun ⟨e, _⟩ => by omega
/-- a link more: the list's own -/
theorem SkSt.put0 {x : Nd} (h : SkSt p r gen hd (A ++ x :: B)) (hx : x.h < x.t) (hA : ∀ y ∈ A, y.h = y.t) (hl : lastN x.h A = none) : SkSt p r gen (upd hd x.h (x.off, x.size)) (A ++ x.up :: B) := by
  have hall := lastN_none.1 hl
  refine ⟨h.hr, h.there, h.sz, fun k hk => ?_, fun z hz => ?_, fun a z b e => ?_, ?_, ?_⟩
  · rw [put_link]
    by_cases e : k = x.h
    · rw [if_pos ⟨e, fun n hn => by rw [e]; exact hall n hn⟩, e, upd_same]
    · rw [if_neg (fun hh => e hh.1), upd_other _ _ e]
      exact h.heads k hk
  · rw [List.mem_append, List.mem_cons] at hz
    rcases hz with hz | rfl | hz
    · exact h.node z (by simp [hz])
    · obtain ⟨q1, q2⟩ := h.node x (by simp)
      exact ⟨⟨q1.t1, q1.t2, hx, q1.ok, q1.vl, q1.sz⟩, q2⟩
    · exact h.node z (by simp [hz])
  · rcases split3 e with ⟨c', e1, e2⟩ | ⟨e1, e2, e3⟩ | ⟨c', e1, e2⟩
    · have hz : z ∈ A := by rw [e1]; simp
      rw [h.ld a z (c' ++ x :: B) (by rw [e1]; simp), e2]
      simp only [Prod.mk.injEq, and_true]
      refine nodeB_congr _ (fun k hk => ?_)
      rw [put_link, if_neg]
      exact all_other (by have := hA z hz; have := hall z hz; omega) hk
    · subst e1 e2 e3
      exact h.ld A x B rfl
    · exact h.ld (A ++ x :: c') z b (by rw [e1]; simp)
  · exact pair_mid (pair_out h.sorted) (pair_at h.sorted).1 (pair_at h.sorted).2
  · exact pair_mid (pair_out h.apart) (pair_at h.apart).1 (pair_at h.apart).2
/-- a link more: a node's -/
theorem SkSt.put1 (hp : PoolOk p) {x y : Nd} (h : SkSt p r gen hd (A ++ x :: B)) (hx : x.h < x.t) (hA : ∀ y ∈ A, y.h = y.t) (hl : lastN x.h A = some y) :
    ∃ p', storeF p (nh r gen y) ((5 + 8 * x.h : Nat) : Int) (ptrB (x.off, x.size)) = (0, p') ∧ SkSt p' r gen hd (A ++ x.up :: B) ∧ Kp r p p' ∧ countF p' = countF p := by
  obtain ⟨a0, c0, eA, hyh, hc0⟩ := lastN_some hl
  have hyA : y ∈ A := by rw [eA]; simp
  have hyN : y ∈ A ++ x :: B := List.mem_append_left _ hyA
  obtain ⟨y1, y2⟩ := h.node y hyN
  have hyt : x.h < y.t := by have := hA y hyA; omega
  have eN : A ++ x :: B = a0 ++ y :: (c0 ++ x :: B) := by rw [eA]; simp
  have hyl := h.ld a0 y _ eN
  have hysz := y1.sz
  obtain ⟨p', hs, hsz, hbl, htk, hln, hld, hk⟩ := store_pcs hp y2 (5 + 8 * x.h) (ptrB (x.off, x.size)) (by rw [ptrB_len]; omega)
  have hap := pair_at (eN ▸ h.apart)
  have hL : ∀ j, landAt p' j = landAt p j := fun j => by unfold landAt; rw [hln]
  have hpc : ∀ z ∈ A ++ x :: B, Pc p' (nh r gen z) r z.off z.size := fun z hz => (hk _ _ _ _ (h.node z hz).2).1
  have hsame : ∀ z ∈ A ++ x :: B, (Apt z y ∨ Apt y z) → loadF p' (nh r gen z) = loadF p (nh r gen z) := fun z hz ha => by
    refine (hk _ _ _ _ (h.node z hz).2).2 (.inr ?_)
    unfold Apt at ha
    omega
  have hnall : ¬ ∀ n ∈ A, n.h ≤ x.h := fun e => by have := e y hyA; omega
  refine ⟨p', hs, ⟨h.hr, by rw [hL]; exact h.there, by rw [hsz]; exact h.sz, fun k hk => ?_, fun z hz => ?_, fun a z b e => ?_, ?_, ?_⟩, ⟨hsz, hbl, fun j _ => hL j, by rw [hL], by rw [hL], fun z j o2 l hj hz => ?_⟩, by unfold countF; rw [htk]⟩
  · rw [put_link, if_neg (fun hh => hnall (fun n hn => by have := hh.2 n hn; omega))]
    exact h.heads k hk
  · rw [List.mem_append, List.mem_cons] at hz
    rcases hz with hz | rfl | hz
    · exact ⟨(h.node z (by simp [hz])).1, hpc z (by simp [hz])⟩
    · obtain ⟨q1, _⟩ := h.node x (by simp)
      exact ⟨⟨q1.t1, q1.t2, hx, q1.ok, q1.vl, q1.sz⟩, hpc x (by simp)⟩
    · exact ⟨(h.node z (by simp [hz])).1, hpc z (by simp [hz])⟩
  · rcases split3 e with ⟨c', e1, e2⟩ | ⟨e1, e2, e3⟩ | ⟨c', e1, e2⟩
    · have hzA : z ∈ A := by rw [e1]; simp
      have hz : z ∈ A ++ x :: B := List.mem_append_left _ hzA
      rcases split3 (eA ▸ e1 : a0 ++ y :: c0 = a ++ z :: c') with ⟨d, f1, f2⟩ | ⟨f1, f2, f3⟩ | ⟨d, f1, f2⟩
      · rw [hsame z hz (.inl (hap.1 z (by rw [f1]; simp))), h.ld a z (c' ++ x :: B) (by rw [e1]; simp), e2]
        simp only [Prod.mk.injEq, and_true]
        refine nodeB_congr _ (fun k _ => ?_)
        rw [put_link, if_neg (fun hh => by have := hh.2 y (by rw [f2]; simp); omega)]
      · subst f1 f2 f3
        rw [hld, hyl, nodeB_put _ _ hyt, e2]
        simp only [Prod.mk.injEq, and_true]
        refine nodeB_congr _ (fun k hk => ?_)
        rw [put_link]
        by_cases ek : k = x.h
        · rw [if_pos ek, if_pos ⟨ek, fun n hn => by rw [ek]; exact hc0 n hn⟩]
        · rw [if_neg ek, if_neg (fun hh => ek hh.1)]
      · rw [hsame z hz (.inr (hap.2 z (by rw [f1]; simp))), h.ld a z (c' ++ x :: B) (by rw [e1]; simp), e2]
        simp only [Prod.mk.injEq, and_true]
        refine nodeB_congr _ (fun k hk => ?_)
        rw [put_link, if_neg]
        exact all_other (by have h1 := hA z hzA; have h2 := hc0 z (by rw [f1]; simp); omega) hk
    · subst e1 e2 e3
      have := hsame x (by simp) (.inr (hap.2 x (by simp)))
      exact this.trans (h.ld A x B rfl)
    · have hz : z ∈ A ++ x :: B := by rw [e1]; simp
      rw [hsame z hz (.inr (hap.2 z (by rw [e1]; simp))), h.ld (A ++ x :: c') z b (by rw [e1]; simp)]
  · exact pair_mid (pair_out h.sorted) (pair_at h.sorted).1 (pair_at h.sorted).2
  · exact pair_mid (pair_out h.apart) (pair_at h.apart).1 (pair_at h.apart).2
  · obtain ⟨q3, q4⟩ := hk _ _ _ _ hz
    exact ⟨q3, q4 (.inl (fun e => hj e.symm))⟩
end
end Go.Proofs.Ytnafhjgfkofkbaa
/- Layer 11 (skip): a list in memory; a node's bytes read. -/
namespace Go.Proofs.Ytnafhjgfkofkbaa
set_option linter.unusedVariables false
set_option linter.unusedSimpArgs false
open Go.RowKit Ikey Varint
set_option maxRecDepth 100000 in
set_option maxHeartbeats 1000000 in
theorem Fixed_any (n : Nat) (s : Int) (w : World) (hn : n < 18446744073709551616) (h1 : -9223372036854775808 ≤ s) (h2 : s ≤ 9223372036854775807) :
    Calls Try.prog 44 #[.int .u64 n, .int .i64 s] w (RetBE 5 w (fixedF n s).1 (fixedF n s).2) := by
  by_cases hs : s < 0 ∨ 8 < s
  · have H := Lib.hid (show fixedF n s = ([], 1) by unfold fixedF; rw [if_pos hs])
    rcases hs with hs | hs
    all_goals
      go_enter Try.func44, Try.ntmps44
      go_wp2
      go_ret2
      refine ⟨none, 0, ?_, ?_, Gr.refl _⟩
      · rw [H.out]; rfl
      · rw [H.out]; exact Owns.empty _ _ _ _
  · obtain ⟨k, rfl⟩ := Int.eq_ofNat_of_zero_le (show 0 ≤ s by omega)
    have hk : k ≤ 8 := by omega
    clear hs h1 h2
    have HP := Lib.hid (show (n : Int) / 2 ^ (8 * k) = ((n / 256 ^ k : Nat) : Int) by rw [pow256]; simp)
    by_cases hb : n / 256 ^ k = 0
    · have H := Lib.hid (show fixedF n k = (bytesN k n, 0) by unfold fixedF; rw [if_neg (by omega), if_neg (by simpa using hb)]; rfl)
      have hq : ((n : Int) / 2 ^ (8 * k) != 0) = false := by rw [HP.out, hb]; rfl
      have HB := Lib.hid hb; clear hb
      by_cases hk8 : k < 8
      all_goals
        go_enter Try.func44, Try.ntmps44
        go_wp2
        go_loopw [0, 6, 25] (fun v b i wr => ∃ (j : Nat) (ad : Option Addr) (cap : Nat), j ≤ k ∧ i = .int .i64 j ∧ v = .int .u64 ((n / 256 ^ j : Nat) : Int) ∧ b = .slice ad j cap ∧ Owns wr w.heap.size 5 1 ad cap j (bv (bytesN j n)) ∧ Gr w wr) (fun _ _ i _ => k - (intOf i).toNat)
        case atStart => exact ⟨0, none, 0, Nat.zero_le _, rfl, by simp, rfl, Owns.empty _ _ _ _, Gr.refl _⟩
        case round =>
          obtain ⟨j, ad, cap, hj, rfl, rfl, rfl, ho, hg⟩ := hrel
          have hs := hg.size
          by_cases hlt : j < k
          · generalize hc : n / 256 ^ j = cur at *
            have hb : cur < 18446744073709551616 := by rw [← hc]; exact Nat.lt_of_le_of_lt (Nat.div_le_self _ _) hn
            have HC := Lib.hid hc; clear hc
            have HX := Lib.hid (show (cur : Int) % 256 = ((UInt8.ofNat cur).toNat : Int) by rw [UInt8.toNat_ofNat']; omega)
            go_wp2_with (at_builtin; refine wp_append elemB rfl _ _ rfl rfl (ho.gr (Gr.alloc _ _)) rfl (Src.one _ _ (UInt8.ofNat cur) HX.out Try.underlying73) (by unfold maxLen; omega) (by omega) (by simp; omega) ?_; intro ad2 cap2 w2 o2 k2 f2)
            go_roundw
            case rel =>
              refine ⟨j + 1, ad2, cap2, by omega, by go_num, ?_, rfl, ?_, hg.app ho (Nat.le_refl _) k2⟩
              · rw [Nat.pow_succ, ← Nat.div_div_eq_div_mul, HC.out]; go_num
              · rw [bytesN_snoc, bv_append, HC.out]; exact o2
            case measure => simp [intOf]; omega
          · obtain rfl : j = k := by omega
            go_wp2
            go_ret2
            refine ⟨ad, cap, ?_, ?_, hg⟩
            · rw [H.out]; simp only [bytesN_len]; rfl
            · rw [H.out]; simp only [bytesN_len]; exact ho
    · have hk8 : k < 8 := by
        rcases Nat.lt_or_ge k 8 with h | h
        · exact h
        · have : k = 8 := by omega
          subst this
          exact absurd (Nat.div_eq_of_lt (by omega)) hb
      have H := Lib.hid (show fixedF n k = ([], 14) by unfold fixedF; rw [if_neg (by omega), if_pos (by simpa using hb)])
      have hq : ((n : Int) / 2 ^ (8 * k) != 0) = true := by rw [HP.out, bne_iff_ne]; omega
      clear hb
      go_enter Try.func44, Try.ntmps44
      go_wp2
      go_ret2
      refine ⟨none, 0, ?_, ?_, Gr.refl _⟩
      · rw [H.out]; rfl
      · rw [H.out]; exact Owns.empty _ _ _ _
/-- numbers in so many bytes -/
theorem Whole_any (ad : Option Addr) (len cap : Nat) (l : List UInt8) (w : World) (hl : l.length = len) (hm : len ≤ maxLen) (hb : Bytes w ad l) :
    Calls Try.prog 76 #[.slice ad len cap] w fun e w' => e = .returned (.tuple #[.int .u64 (wholeF l).1, .int .i64 (wholeF l).2]) ∧ w = w' := by
  subst hl
  unfold maxLen at hm
  by_cases h8 : 8 < l.length
  · have H := Lib.hid (show wholeF l = (0, 1) by unfold wholeF; rw [if_pos h8])
    go_enter Try.func76, Try.ntmps76
    go_wp2
    go_ret2
    exact ⟨by rw [H.out]; rfl, rfl⟩
  · have H := Lib.hid (show wholeF l = (le l, 0) by unfold wholeF; rw [if_neg h8])
    go_enter Try.func76, Try.ntmps76
    go_wp2
    go_loop [4, 5, 6, 12] (fun v _ _ i => ∃ k : Nat, k ≤ l.length ∧ i = .int .i64 k ∧ v = .int .u64 (le (l.take k))) (fun _ _ _ i => l.length - (intOf i).toNat)
    case atStart => exact ⟨0, Nat.zero_le _, rfl, rfl⟩
    case round =>
      obtain ⟨k, hk, rfl, rfl⟩ := hrel
      by_cases hlt : k < l.length
      · obtain ⟨b, off, rfl, hc⟩ := hb k hlt
        have hx := byte_hi l[k]
        have h1 := le_take l k (by omega) (by omega)
        have HO := Lib.hid (u64_shl_or (le (l.take k)) l[k].toNat (8 * k) h1.1 (by have := le_fits k l[k].toNat (by omega) l[k].toNat_lt; exact this) h1.2)
        have HT := Lib.hid (le_take_succ l k hlt)
        have h2 := h1.2
        clear h1
        go_wp2
        go_round
        case rel => exact ⟨k + 1, by omega, by go_num, by rw [HO.out, HT.out]⟩
        case measure => simp [intOf]; omega
      · obtain rfl : k = l.length := by omega
        have HL := Lib.hid (List.take_length (l := l))
        go_wp2
        go_ret2
        exact ⟨by rw [H.out]; simp only [List.take_length]; rfl, rfl⟩
/-- a link, as a value -/
def lnk (q : Nat × Nat) : Value := .agg #[.int .i64 (q.1 : Int), .int .i64 (q.2 : Int)]
/-- links, one behind the other -/
def rowV (f : Nat → Nat × Nat) : Nat → List Value
  | 0 => []
  | n + 1 => rowV f n ++ [.int .i64 ((f n).1 : Int), .int .i64 ((f n).2 : Int)]
theorem rowV_len (f : Nat → Nat × Nat) : ∀ n, (rowV f n).length = 2 * n
  | 0 => rfl
  | n + 1 => by rw [rowV, List.length_append, rowV_len f n]; simp; omega
theorem rowV_congr {f g : Nat → Nat × Nat} : ∀ n, (∀ k, k < n → f k = g k) → rowV f n = rowV g n
  | 0, _ => rfl
  | n + 1, h => by rw [rowV, rowV, rowV_congr n (fun k hk => h k (by omega)), h n (by omega)]
theorem rowV_one (f : Nat → Nat × Nat) : ∀ n, ∀ v ∈ rowV f n, v.oneCell' = true
  | 0, v, h => by simp [rowV] at h
  | n + 1, v, h => by
    rw [rowV, List.mem_append] at h
    rcases h with h | h
    · exact rowV_one f n v h
    · simp only [List.mem_cons, List.not_mem_nil, or_false] at h
      rcases h with rfl | rfl <;> rfl
theorem rowV_get (f : Nat → Nat × Nat) : ∀ n k, k < n → (rowV f n)[k * 2]? = some (.int .i64 ((f k).1 : Int)) ∧ (rowV f n)[k * 2 + 1]? = some (.int .i64 ((f k).2 : Int))
  | 0, k, h => by omega
  | n + 1, k, h => by
    rw [rowV]
    have hl := rowV_len f n
    by_cases e : k = n
    · subst e
      rw [List.getElem?_append_right (by omega), List.getElem?_append_right (by omega), hl, show k * 2 - 2 * k = 0 by omega, show k * 2 + 1 - 2 * k = 1 by omega]
      exact ⟨rfl, rfl⟩
    · rw [List.getElem?_append_left (by omega), List.getElem?_append_left (by omega)]
      exact rowV_get f n k (by omega)
theorem rowV_set (f : Nat → Nat × Nat) (q : Nat × Nat) : ∀ n k, k < n → ((rowV f n).set (k * 2) (.int .i64 (q.1 : Int))).set (k * 2 + 1) (.int .i64 (q.2 : Int)) = rowV (upd f k q) n
  | 0, k, h => by omega
  | n + 1, k, h => by
    rw [rowV, rowV]
    have hl := rowV_len f n
    by_cases e : k = n
    · subst e
      rw [List.set_append_right _ _ (by omega), List.set_append_right _ _ (by omega), hl, show k * 2 - 2 * k = 0 by omega, show k * 2 + 1 - 2 * k = 1 by omega, upd_same, rowV_congr k (fun i hi => (upd_other f q (show i ≠ k by omega)).symm)]
      rfl
    · rw [List.set_append_left _ _ (by omega), List.set_append_left _ _ (by rw [List.length_set]; omega), rowV_set f q n k (by omega), upd_other _ _ (fun e2 => e e2.symm)]
/-- a list in plain words -/
structure Ls where
  r : Nat
  gen : Nat
  hd : Nat → Nat × Nat
  cnt : Nat
  wt : Nat
  fz : Bool
  fd : Bool
def lstV (g : Nat) (L : Ls) : List Value := [.pointer (some ⟨g, 0, none⟩), .int .i64 (L.r : Int), .int .i64 (L.gen : Int)] ++ (rowV L.hd 12 ++ [.int .i64 (L.cnt : Int), .int .i64 (L.wt : Int), .bool L.fz, .bool L.fd])
section
variable {w w' : World} {g gl : Nat} {L : Ls}
theorem lstV_mid (g : Nat) (L : Ls) {k : Nat} {v : Value} (hk : k < 24) (h : (rowV L.hd 12)[k]? = some v) : (lstV g L)[3 + k]? = some v := by
  unfold lstV
  rw [List.getElem?_append_right (by simp), show 3 + k - [Value.pointer (some ⟨g, 0, none⟩), .int .i64 (L.r : Int), .int .i64 (L.gen : Int)].length = k by simp,
    List.getElem?_append_left (by rw [rowV_len]; omega)]
  exact h
theorem lst_heads (h : Blk w gl 80 (lstV g L)) : w.cell? ⟨gl, 0, none⟩ = some (.pointer (some ⟨g, 0, none⟩)) ∧ w.cell? ⟨gl, 1, none⟩ = some (.int .i64 (L.r : Int)) ∧ w.cell? ⟨gl, 2, none⟩ = some (.int .i64 (L.gen : Int)) :=
  ⟨h.cell rfl, h.cell rfl, h.cell rfl⟩
theorem lst_tail (h : Blk w gl 80 (lstV g L)) : w.cell? ⟨gl, 27, none⟩ = some (.int .i64 (L.cnt : Int)) ∧ w.cell? ⟨gl, 28, none⟩ = some (.int .i64 (L.wt : Int)) ∧ w.cell? ⟨gl, 29, none⟩ = some (.bool L.fz) ∧ w.cell? ⟨gl, 30, none⟩ = some (.bool L.fd) :=
  ⟨h.cell rfl, h.cell rfl, h.cell rfl, h.cell rfl⟩
theorem lst_head (h : Blk w gl 80 (lstV g L)) {k : Nat} (hk : k < 12) : w.cell? ⟨gl, 3 + k * 2, none⟩ = some (.int .i64 ((L.hd k).1 : Int)) ∧ w.cell? ⟨gl, 3 + k * 2 + 1, none⟩ = some (.int .i64 ((L.hd k).2 : Int)) := by
  obtain ⟨h1, h2⟩ := rowV_get L.hd 12 k hk
  exact ⟨h.cell (lstV_mid g L (by omega) h1), h.cell (lstV_mid g L (by omega) h2)⟩
end
/-- a list in a pool in memory -/
structure Sk (w : World) (S : Nat → Prop) (g gl : Nat) (p : PoolF) (L : Ls) : Prop where
  pool : PoolAt w S g p
  ok : PoolOk p
  blk : Blk w gl 80 (lstV g L)
  out : ¬ S gl
theorem Sk.gr {w w' : World} {S : Nat → Prop} {g gl : Nat} {p : PoolF} {L : Ls} (h : Sk w S g gl p L) (k : Gr w w') : Sk w' S g gl p L := ⟨h.pool.gr k, h.ok, h.blk.gr k, h.out⟩

theorem Blk.two {w : World} {g : Nat} {t : TypeId} {a b : Value} (h : Blk w g t [a, b]) : w.cell? ⟨g, 0, none⟩ = some a ∧ w.cell? ⟨g, 1, none⟩ = some b ∧ w.frozen? ⟨g, 0, none⟩ = false ∧ w.frozen? ⟨g, 1, none⟩ = false :=
  ⟨h.cell rfl, h.cell rfl, h.frozen _, h.frozen _⟩
end Go.Proofs.Ytnafhjgfkofkbaa
/- Layer 11 (skip): a node's bytes read. -/
namespace Go.Proofs.Ytnafhjgfkofkbaa
set_option linter.unusedVariables false
set_option linter.unusedSimpArgs false
open Go.RowKit Ikey Varint
set_option maxRecDepth 100000 in
theorem number_any (ad : Option Addr) (n cap : Nat) (l : List UInt8) (w : World) (hl : l.length = n) (hm : n ≤ 4) (hb : Bytes w ad l) :
    Calls Try.prog 71 #[.slice ad n cap] w fun e w' => e = .returned (.int .i64 (le l : Nat)) ∧ w = w' := by
  have h := Whole_any ad n cap l w hl (by unfold maxLen; omega) hb
  have e : wholeF l = (le l, 0) := by unfold wholeF; rw [if_neg (by omega)]
  rw [e] at h
  have h4 := le_lt l
  have h5 : 256 ^ l.length ≤ 256 ^ 4 := Nat.pow_le_pow_right (by decide) (by omega)
  have hle : le l < 4294967296 := by omega
  have H := Lib.hid h
  clear h e h4 h5 hb
  generalize le l = x at *
  go_enter Try.func71, Try.ntmps71
  go_wp2_with (go_at_call 76; refine H.out.mono ?_; rintro e w' ⟨rfl, rfl⟩)
  go_ret
  exact ⟨rfl, rfl⟩
set_option maxRecDepth 100000 in
set_option maxHeartbeats 1000000 in
theorem link_any (b o cap k x y : Nat) (l : List UInt8) (w : World) (hk : k < 12) (hl : 5 + 8 * k + 8 ≤ l.length) (hl2 : l.length ≤ 2000) (hc : l.length ≤ cap) (hb : Bytes w (some ⟨b, o, none⟩) l)
    (hx : (l.drop (5 + 8 * k)).take 4 = bytesN 4 x) (hy : (l.drop (5 + 8 * k + 4)).take 4 = bytesN 4 y) (hx4 : x < 4294967296) (hy4 : y < 4294967296) :
    Calls Try.prog 65 #[.slice (some ⟨b, o, none⟩) l.length cap, .int .i64 (k : Int)] w fun e w' => e = .returned (lnk (x, y)) ∧ Gr w w' := by
  have e1 : le (bytesN 4 x) = x := le_bytesN' 4 x hx4
  have e2 : le (bytesN 4 y) = y := le_bytesN' 4 y hy4
  have H1 := Lib.hid (fun w' (h : Bytes w' (some ⟨b, o, none⟩) l) c => number_any (some ⟨b, o + (5 + 8 * k), none⟩) 4 c _ w' (by simp; omega) (by omega) ((h.drop (5 + 8 * k)).take 4))
  have H2 := Lib.hid (fun w' (h : Bytes w' (some ⟨b, o, none⟩) l) c => number_any (some ⟨b, o + (5 + 8 * k + 4), none⟩) 4 c _ w' (by simp; omega) (by omega) ((h.drop (5 + 8 * k + 4)).take 4))
  rw [hx, e1] at H1
  rw [hy, e2] at H2
  have HB := Lib.hid hb
  clear hx hy e1 e2 hb
  obtain ⟨at_, hat⟩ : ∃ at_, at_ = 5 + 8 * k := ⟨_, rfl⟩
  have hatI : 5 + 8 * (k : Int) = (at_ : Int) := by omega
  rw [← hat] at H1 H2 hl
  clear hat
  have hat2 : at_ ≤ 2000 := by omega
  have hcap : at_ + 8 ≤ cap := by omega
  have hne : ¬ cap = at_ := by omega
  have hne2 : ¬ cap = at_ + 4 := by omega
  clear hx4 hy4 hk hl2 hl hc
  unfold lnk
  go_enter Try.func65, Try.ntmps65
  go_wp2
  refine region_tail_gr 14 _ [Is (.slice (some ⟨b, o, none⟩) l.length cap), Is (.int .i64 (at_ : Int)), Is ?r2, Is (.int .i64 ((at_ : Int) + 4)), Is (.slice (some ⟨b, o + at_, none⟩) 4 (cap - at_)), Is (.int .i64 (x : Int)), Is (.slice (some ⟨b, o, none⟩) l.length cap), Is ?r7, Is (.int .i64 ((at_ : Int) + 4)), Is (.int .i64 (at_ : Int)), Is (.int .i64 ((at_ : Int) + 8)), Is (.slice (some ⟨b, o + (at_ + 4), none⟩) 4 (cap - (at_ + 4))), Is (.int .i64 (y : Int)), Is (.agg #[.int .i64 (x : Int), .int .i64 (y : Int)])] (by kernel_rfl) (by kernel_rfl) (by kernel_rfl) (by kernel_rfl) rfl rfl ⟨Is.stable _, Is.stable _, Is.stable _, Is.stable _, Is.stable _, Is.stable _, Is.stable _, Is.stable _, Is.stable _, Is.stable _, Is.stable _, Is.stable _, Is.stable _, Is.stable _, trivial⟩ ⟨?s0, ?s1, ?s2, ?s3, ?s4, ?s5, ?s6, ?s7, ?s8, ?s9, ?s10, ?s11, ?s12, ?s13, trivial⟩ ?fin
  case' s0 | s1 | s2 | s3 | s4 | s5 | s6 | s7 | s8 | s9 | s10 | s11 | s12 | s13 =>
    intro ρ wr hρ hg hK
    simp [readsOf, slotsOf, Op.operands, Call.operands, tmpOf, List.filterMap_cons, List.filterMap_nil, KnownAll, knownOf, srcOf, depsOf, dstOf, Region.binds, nth, Is] at hK
    obtain ⟨hc, hf, hgl⟩ := hρ
    try simp only [wantedBy, dstOf, boolOf, nth, List.getD_cons_zero, List.getD_cons_succ, List.getElem?_cons_zero, List.getElem?_cons_succ, Option.bind_some, if_true, hK, BEq.rfl]
    try go_simp
    first | exact rfl | (rw [if_pos (by omega)]; exact is_here rfl) | (rw [dif_pos (by omega)]; exact is_here rfl) | exact congrArg (Value.int _) (IntWalk.i64_in _ ⟨by omega, by omega⟩) | skip
  case s4 =>
    rw [if_pos (by omega), if_pos (by omega), show ((at_ : Int) + 4).toNat - at_ = 4 by omega]
    exact is_here rfl
  case s5 => exact any_same (H1.out _ (HB.out.gr ((Gr.alloc _ _).trans hg)) _)
  case s11 =>
    rw [if_pos (by omega), if_pos (by omega), show ((at_ : Int) + 8).toNat - ((at_ : Int) + 4).toNat = 4 by omega, show ((at_ : Int) + 4).toNat = at_ + 4 by omega, if_neg hne2]
    exact is_here rfl
  case s12 => exact any_same (H2.out _ (HB.out.gr ((Gr.alloc _ _).trans hg)) _)
  case fin =>
    intro w1 val hg hH
    simp only [Holds, Is, Nat.zero_add, Nat.reduceAdd] at hH
    obtain ⟨h0, h1, h2, h3, h4, h5, h6, h7, h8, h9, h10, h11, h12, h13, _⟩ := hH
    simp only [List.take_succ_cons, List.take_zero, List.drop_succ_cons, List.drop_zero, putAll, h0, h1, h2, h3, h4, h5, h6, h7, h8, h9, h10, h11, h12, h13, Nat.zero_add, Nat.reduceAdd]
    obtain ⟨c0, c1, f0, f1⟩ := (Blk.of1 hg).two
    go_simp
    go_wp2
    refine bodyPost_ret (v := .agg #[.int .i64 (x : Int), .int .i64 (y : Int)]) (by simp [results, Try.results65, go_sem, c0, c1]) rfl ⟨rfl, ?_⟩
    exact (((Gr.alloc _ _).trans hg).setCell (Nat.le_refl _) _).setCell (Nat.le_refl _) _
/-- a cell, as a value -/
def ceV (c : Ce) : Value := .agg #[.string (str c.key), .int .i64 (c.seq : Int), .int .i64 (c.kind : Int), .string (str c.val)]
set_option maxRecDepth 100000 in
set_option maxHeartbeats 1000000 in
theorem cell_any (b o cap n t : Nat) (f : Nat → Nat × Nat) (c : Ce) (w : World) (t1 : 1 ≤ t) (t2 : t ≤ 12) (hok : okV c.key c.seq c.kind = true) (hv : c.val.length ≤ 1000) (hn : (nodeB t f c).length = n) (hc : n ≤ cap) (hcm : cap ≤ maxLen) (hb : Bytes w (some ⟨b, o, none⟩) (nodeB t f c)) :
    Calls Try.prog 56 #[.slice (some ⟨b, o, none⟩) n cap] w fun e w' => e = .returned (.tuple #[ceV c, .int .i64 0]) ∧ Gr w w' := by
  obtain ⟨p0, p1, p2, p3, p4⟩ := nodeB_parts t f c
  have hnl := nodeB_len t f c
  obtain ⟨k1, k2, _⟩ := okV_of hok
  have hdec : decF (encF c.key c.seq c.kind) = some (c.key, c.seq, c.kind) := decF_iff.2 ⟨hok, rfl⟩
  have hEl := enc_len c.key c.seq c.kind
  unfold ceV
  obtain ⟨key, seq, kind, vl⟩ := c
  simp only at *
  generalize nodeB t f ⟨key, seq, kind, vl⟩ = l at *
  generalize encF key seq kind = E at *
  obtain ⟨K, hK⟩ : ∃ K, K = key.length + 8 := ⟨_, rfl⟩
  obtain ⟨V, hV⟩ : ∃ V, V = vl.length := ⟨_, rfl⟩
  obtain ⟨Fr, hF⟩ : ∃ Fr, Fr = 5 + 8 * t := ⟨_, rfl⟩
  rw [← hK] at hnl hEl p1 p3 p4
  rw [← hV] at hnl hv p2 p4
  rw [← hF] at hnl p3 p4
  have hFI : 5 + 8 * (t : Int) = (Fr : Int) := by omega
  have e1 : le (bytesN 2 K) = K := le_bytesN' 2 K (by omega)
  have e2 : le (bytesN 2 V) = V := le_bytesN' 2 V (by omega)
  have hz : w.cell? ⟨b, o, none⟩ = some (.int .u8 (t : Int)) := by
    obtain ⟨b', o', e, h⟩ := hb 0 (by omega)
    cases e
    have hx : l[0]'(by omega) = UInt8.ofNat t := by
      have := List.getElem?_eq_getElem (l := l) (i := 0) (by omega)
      rw [p0] at this
      exact (Option.some.inj this).symm
    rw [hx, UInt8.toNat_ofNat', Nat.mod_eq_of_lt (by omega)] at h
    exact h
  have hz1 := (Gr.alloc w (.cells #[.string ⟨#[]⟩, .int .i64 0, .int .i64 0, .string ⟨#[]⟩] 41)).cell hz
  have hn0 : 0 < n := by omega
  clear hz
  have H1 := Lib.hid (fun w' (h : Bytes w' (some ⟨b, o, none⟩) l) c => number_any (some ⟨b, o + 1, none⟩) 2 c _ w' (by simp; omega) (by omega) ((h.drop 1).take 2))
  have H2 := Lib.hid (fun w' (h : Bytes w' (some ⟨b, o, none⟩) l) c => number_any (some ⟨b, o + 3, none⟩) 2 c _ w' (by simp; omega) (by omega) ((h.drop 3).take 2))
  have HD := Lib.hid (fun w' (h : Bytes w' (some ⟨b, o, none⟩) l) c hc => Decode_any (some ⟨b, o + Fr, none⟩) c E w' hc (by unfold maxLen; omega) (p3 ▸ ((h.drop Fr).take K)))
  obtain ⟨adV, hadV⟩ : ∃ adV : Option Addr, adV = if cap = Fr + K then some ⟨b, o, none⟩ else some ⟨b, o + (Fr + K), none⟩ := ⟨_, rfl⟩
  have HV := Lib.hid (fun w' (h : Bytes w' (some ⟨b, o, none⟩) l) c => run_string (P := Try.prog) (cap := c) Try.underlying73 Try.underlying5 Try.underlying9 (w := w') (len := V) (l := vl) (ad := adV) (by rw [hV]) (by
    by_cases e : cap = Fr + K
    · have : vl = [] := List.eq_nil_of_length_eq_zero (by omega)
      rw [this]; exact fun i hi => absurd hi (by simp)
    · rw [hadV, if_neg e]; exact p4 ▸ ((h.drop (Fr + K)).take V)))
  have HA := Lib.hid hadV
  clear hadV
  rw [p1, e1] at H1
  rw [p2, e2] at H2
  rw [hdec, hEl] at HD
  unfold outV ver at HD
  have HB := Lib.hid hb
  clear hb p0 p1 p2 p3 p4 e1 e2 hdec hEl hok k1
  have hF2 : Fr ≤ 101 := by omega
  have hK2 : K ≤ 72 := by omega
  have hcap : Fr + K + V ≤ cap := by omega
  have hcap1 : Fr + K ≤ cap := by omega
  have hne : ¬ cap = Fr := by omega
  have hcmI : (cap : Int) ≤ 9223372036854775807 := by unfold maxLen at hcm; omega
  clear hK hV hF hnl hcm k2
  go_enter Try.func56, Try.ntmps56
  go_wp2_with (first
    | (go_at_call 71; refine (H1.out _ (HB.out.gr (Gr.alloc _ _)) _).mono ?_; rintro e w' ⟨rfl, rfl⟩)
    | (go_at_call 72; refine (HD.out _ (HB.out.gr (Gr.alloc _ _)) _ (by omega)).mono ?_; rintro e w2 ⟨rfl, g2⟩)
    | fail)
  obtain ⟨Po, hPo⟩ : ∃ Po, Po = w.heap.size := ⟨_, rfl⟩
  have bP : Blk (w2.alloc (.cells #[.string (str key), .int .i64 (seq : Int), .int .i64 (kind : Int)] 33)) Po 41 [.string ⟨#[]⟩, .int .i64 0, .int .i64 0, .string ⟨#[]⟩] := by rw [hPo]; exact (Blk.of1 g2).alloc _
  have hPW : Po < w2.heap.size := by rw [hPo]; exact (Blk.of1 g2).lt
  obtain ⟨cv0, cv1, cv2, _⟩ := (Blk.new w2 33 #[.string (str key), .int .i64 (seq : Int), .int .i64 (kind : Int)]).three
  have gW : Gr w (w2.alloc (.cells #[.string (str key), .int .i64 (seq : Int), .int .i64 (kind : Int)] 33)) := ((Gr.alloc _ _).trans g2).trans (Gr.alloc _ _)
  have hbl : b < w.heap.size := by obtain ⟨_, _, e, h⟩ := HB.out 0 (by rw [hn]; exact hn0); cases e; exact World.block_lt_of_cell? w _ h
  have BW := Lib.hid (HB.out.gr gW)
  have hPV : (some w2.heap.size : Option Nat) ≠ some Po := by simp; omega
  have hPb : b ≠ Po := by omega
  have HPO := Lib.hid hPo
  rw [← hPo]
  clear hPo HB
  generalize (w2.alloc (.cells #[.string (str key), .int .i64 (seq : Int), .int .i64 (kind : Int)] 33)) = W at *
  have BP := Lib.hid bP
  obtain ⟨A, hA⟩ : ∃ A, A = W.heap[Po]? := ⟨_, rfl⟩
  have HA2 := Lib.hid hA
  clear hA bP
  have HBK := Lib.hid (show ∀ x : Addr, (some (⟨b, o, none⟩ : Addr)) = some x → some x.block ≠ some Po from fun x hx h => by cases hx; cases h; exact hPb rfl)
  have HWB := Lib.hid (fun wr (h : Once (some Po) A (some (.cells #[.string (str key), .int .i64 (seq : Int), .int .i64 (kind : Int), .string (str vl)] 41 (0, 0))) W wr) => h.bytes BW.out HBK.out)
  refine region_store_once (some Po) A (some (.cells #[.string (str key), .int .i64 (seq : Int), .int .i64 (kind : Int), .string (str vl)] 41 (0, 0))) _ [Is (.agg #[.string (str key), .int .i64 (seq : Int), .int .i64 (kind : Int)]), Is (.slice (some ⟨b, o, none⟩) n cap), Is (.int .i64 ((Fr : Int) + (K : Int))), Is (.int .i64 ((Fr : Int) + (K : Int))), Is (.slice (some ⟨b, o, none⟩) n cap), Is (.slice (some ⟨b, o + 3, none⟩) 2 (cap - 3)), Is (.int .i64 (V : Int)), Is (.int .i64 ((Fr : Int) + (K : Int) + (V : Int))), Is (.slice adV V (cap - (Fr + K))), Is (.string (str vl)), Is (.agg #[.string (str key), .int .i64 (seq : Int), .int .i64 (kind : Int), .string (str vl)]), Is (.int .i64 0), StoredB (some Po) (some (.cells #[.string (str key), .int .i64 (seq : Int), .int .i64 (kind : Int), .string (str vl)] 41 (0, 0))), Is (.int .i64 0)] (by kernel_rfl) (by kernel_rfl) (by kernel_rfl) rfl rfl ⟨Is.stable _, Is.stable _, Is.stable _, Is.stable _, Is.stable _, Is.stable _, Is.stable _, Is.stable _, Is.stable _, Is.stable _, Is.stable _, Is.stable _, StoredB.stable, Is.stable _, trivial⟩ ⟨?s0x1, ?s1x1, ?s2x1, ?s3x1, ?s4x1, ?s5x1, ?s6x1, ?s7x1, ?s8x1, ?s9x1, ?s10x1, ?s11x1, ?s12x1, ?s13x1, trivial⟩ ?finx1
  case' s0x1 | s1x1 | s2x1 | s3x1 | s4x1 | s5x1 | s6x1 | s7x1 | s8x1 | s9x1 | s10x1 | s11x1 | s12x1 | s13x1 =>
    intro ρ wr hρ hg hK
    simp [readsOf, slotsOf, Op.operands, Call.operands, tmpOf, List.filterMap_cons, List.filterMap_nil, KnownAll, knownOf, srcOf, depsOf, dstOf, Region.binds, nth, Is] at hK
    obtain ⟨hc, hf, hgl⟩ := hρ
    try simp only [wantedBy, dstOf, boolOf, nth, List.getD_cons_zero, List.getD_cons_succ, List.getElem?_cons_zero, List.getElem?_cons_succ, Option.bind_some, if_true, hK, BEq.rfl]
    try go_simp
    first | exact rfl | (rw [if_pos (by omega)]; exact is_here rfl) | (rw [dif_pos (by omega)]; exact is_here rfl) | exact congrArg (Value.int _) (IntWalk.i64_in _ ⟨by omega, by omega⟩) | skip
  case s0x1 =>
    have d0 := hg.cell cv0 hPV; have d1 := hg.cell cv1 hPV; have d2 := hg.cell cv2 hPV
    go_simp
    exact rfl
  case s6x1 => exact (H2.out _ (HWB.out _ hg) _).mono fun e w'' ⟨h1, h2⟩ => ⟨_, h1, h2 ▸ Once.refl _, rfl⟩
  case s5x1 =>
    rw [if_pos (by omega), if_neg (by omega)]
    exact ⟨Once.refl _, rfl⟩
  case s8x1 =>
    rw [if_pos ⟨by omega, by omega⟩, if_pos ⟨by omega, by omega⟩]
    refine ⟨Once.refl _, ?_⟩
    rw [HA.out, show ((Fr : Int) + (K : Int)).toNat = Fr + K by omega, show ((Fr : Int) + (K : Int) + (V : Int)).toNat - (Fr + K) = V by omega]
    exact rfl
  case s9x1 =>
    rw [HV.out _ (HWB.out _ hg)]
    exact ⟨Once.refl _, rfl⟩
  case s12x1 =>
    have hcs := hg.2 Po rfl
    have hbk : ∃ x y z u, Blk wr Po 41 [x, y, z, u] := by
      rcases hcs with h | ⟨_, h⟩
      · exact ⟨_, _, _, _, h.trans BP.out⟩
      · exact ⟨_, _, _, _, h⟩
    obtain ⟨x, y, z, u, hbk⟩ := hbk
    obtain ⟨u0, u1, u2, u3, fz0, fz1, fz2, fz3⟩ := hbk.four
    have hb2 := (((hbk.set_ 0 (.string (str key))).set_ 1 (.int .i64 (seq : Int))).set_ 2 (.int .i64 (kind : Int))).set_ 3 (.string (str vl))
    simp only [List.set_cons_zero, List.set_cons_succ] at hb2
    go_simp
    refine ⟨⟨grown_trans (grown_trans (grown_trans (grown_set wr Po 0 _) (grown_set _ Po 1 _)) (grown_set _ Po 2 _)) (grown_set _ Po 3 _), fun g hg' => ?_⟩, fun g hg' => by cases hg'; exact hb2⟩
    cases hg'
    rcases hcs with h | ⟨_, h⟩
    · exact .inr ⟨h.trans HA2.out.symm, hb2⟩
    · exact .inl (hb2.trans h.symm)
  case finx1 =>
    intro w1 val hg hH
    simp only [Holds, Is, Nat.zero_add, Nat.reduceAdd] at hH
    obtain ⟨h0, h1, h2, h3, h4, h5, h6, h7, h8, h9, h10, h11, h12, h13, _⟩ := hH
    simp only [List.take_succ_cons, List.take_zero, List.drop_succ_cons, List.drop_zero, putAll, h0, h1, h2, h3, h4, h5, h6, h7, h8, h9, h10, h11, h13, Nat.zero_add, Nat.reduceAdd]
    have hb2 : Blk w1 Po 41 [.string (str key), .int .i64 (seq : Int), .int .i64 (kind : Int), .string (str vl)] := h12 Po rfl
    obtain ⟨d0, d1, d2, d3, _⟩ := hb2.four
    have gE : Gr w w1 := gW.grown hg.1 (fun g e => by cases e; exact Nat.le_of_eq HPO.out.symm)
    go_simp
    go_wp2
    refine bodyPost_ret (v := .tuple #[.agg #[.string (str key), .int .i64 (seq : Int), .int .i64 (kind : Int), .string (str vl)], .int .i64 0]) (by simp [results, Try.results56, go_sem, d0, d1, d2, d3]) rfl ?_
    exact ⟨rfl, gE⟩
end Go.Proofs.Ytnafhjgfkofkbaa
/- Layer 11 (skip): a node is loaded; the next one; is a version there. -/
namespace Go.Proofs.Ytnafhjgfkofkbaa
set_option linter.unusedVariables false
set_option linter.unusedSimpArgs false
open Go.RowKit Ikey Varint
set_option maxRecDepth 100000 in
set_option maxHeartbeats 1000000 in
theorem handle_any (w : World) (g gl : Nat) (L : Ls) (q : Nat × Nat) (hb : Blk w gl 80 (lstV g L)) :
    Calls Try.prog 69 #[.pointer (some ⟨gl, 0, none⟩), lnk q] w fun e w' => e = .returned (.agg #[.int .i64 (L.r : Int), .int .i64 (L.gen : Int), .int .i64 (q.1 : Int), .int .i64 (q.2 : Int)]) ∧ Gr w w' := by
  obtain ⟨q1, q2⟩ := q
  unfold lnk
  simp only
  have HB := Lib.hid ((hb.alloc (.cells #[.int .i64 (q1 : Int), .int .i64 (q2 : Int)] 77)).alloc (.cells #[.int .i64 0, .int .i64 0, .int .i64 0, .int .i64 0] 93))
  clear hb
  have g0 : Gr w ((w.alloc (.cells #[.int .i64 (q1 : Int), .int .i64 (q2 : Int)] 77)).alloc (.cells #[.int .i64 0, .int .i64 0, .int .i64 0, .int .i64 0] 93)) := (Gr.alloc _ _).trans (Gr.alloc _ _)
  go_enter Try.func69, Try.ntmps69
  go_wp2
  refine region_tail_gr 13 _ [Is ?r0, Is ?r1, Is ?r2, Is (.int .i64 (L.r : Int)), Is ?r4, Is ?r5, Is ?r6, Is (.int .i64 (L.gen : Int)), Is ?r8, Is (.int .i64 (q1 : Int)), Is ?r10, Is (.int .i64 (q2 : Int)), Is (.agg #[.int .i64 (L.r : Int), .int .i64 (L.gen : Int), .int .i64 (q1 : Int), .int .i64 (q2 : Int)])] (by kernel_rfl) (by kernel_rfl) (by kernel_rfl) (by kernel_rfl) rfl rfl ⟨Is.stable _, Is.stable _, Is.stable _, Is.stable _, Is.stable _, Is.stable _, Is.stable _, Is.stable _, Is.stable _, Is.stable _, Is.stable _, Is.stable _, Is.stable _, trivial⟩ ⟨?s0, ?s1, ?s2, ?s3, ?s4, ?s5, ?s6, ?s7, ?s8, ?s9, ?s10, ?s11, ?s12, trivial⟩ ?fin
  case' s0 | s1 | s2 | s3 | s4 | s5 | s6 | s7 | s8 | s9 | s10 | s11 | s12 =>
    intro ρ wr hρ hg hK
    simp [readsOf, slotsOf, Op.operands, Call.operands, tmpOf, List.filterMap_cons, List.filterMap_nil, KnownAll, knownOf, srcOf, depsOf, dstOf, Region.binds, nth, Is] at hK
    obtain ⟨hc, hf, hgl⟩ := hρ
    try simp only [wantedBy, dstOf, boolOf, nth, List.getD_cons_zero, List.getD_cons_succ, List.getElem?_cons_zero, List.getElem?_cons_succ, Option.bind_some, if_true, hK, BEq.rfl]
    try go_simp
    first | exact rfl | (rw [if_pos (by omega)]; exact is_here rfl) | (rw [dif_pos (by omega)]; exact is_here rfl) | exact congrArg (Value.int _) (IntWalk.i64_in _ ⟨by omega, by omega⟩) | skip
  case s3 | s7 =>
    obtain ⟨_, c1, c2⟩ := lst_heads (HB.out.gr hg)
    go_simp
    exact rfl
  case s9 | s11 =>
    obtain ⟨c1, c2, _⟩ := (Blk.of2a hg).two
    go_simp
    exact rfl
  case fin =>
    intro w1 val hg hH
    simp only [Holds, Is, Nat.zero_add, Nat.reduceAdd] at hH
    obtain ⟨h0, h1, h2, h3, h4, h5, h6, h7, h8, h9, h10, h11, h12, _⟩ := hH
    simp only [List.take_succ_cons, List.take_zero, List.drop_succ_cons, List.drop_zero, putAll, h0, h1, h2, h3, h4, h5, h6, h7, h8, h9, h10, h11, h12, Nat.zero_add, Nat.reduceAdd]
    obtain ⟨c0, c1, c2, c3, f0, f1, f2, f3⟩ := (Blk.of2b hg).four
    go_simp
    go_wp2
    refine bodyPost_ret (v := .agg #[.int .i64 (L.r : Int), .int .i64 (L.gen : Int), .int .i64 (q1 : Int), .int .i64 (q2 : Int)]) (by simp [results, Try.results69, go_sem, c0, c1, c2, c3]) rfl ⟨rfl, ?_⟩
    have hk : w.heap.size ≤ w.heap.size + 1 := by omega
    exact ((((g0.trans hg).setCell hk _).setCell hk _).setCell hk _).setCell hk _
/-- bytes that were loaded -/
def LdB (b : List UInt8) : Value → World → Prop := fun v w => ∃ gb cap, v = .slice (some ⟨gb, 0, none⟩) b.length cap ∧ b.length ≤ cap ∧ cap ≤ maxLen ∧ Bytes w (some ⟨gb, 0, none⟩) b
theorem LdB.stable (b : List UInt8) : Stable Gr (LdB b) := fun _ _ _ ⟨gb, cap, e, h1, h2, h3⟩ k => ⟨gb, cap, e, h1, h2, h3.gr k⟩
def LdT (b : List UInt8) : Value → World → Prop := fun v w => ∃ s, v = .tuple #[s, .int .i64 0] ∧ LdB b s w
theorem LdT.stable (b : List UInt8) : Stable Gr (LdT b) := fun _ _ _ ⟨s, e, h⟩ k => ⟨s, e, LdB.stable b _ _ _ h k⟩
theorem LdB.of {w : World} {base : Nat} {ad : Option Addr} {cap : Nat} {b : List UInt8} (h : Owns w base 5 1 ad cap b.length (bv b)) (h1 : 1 ≤ b.length) : LdB b (.slice ad b.length cap) w := by
  obtain ⟨g, rfl, _, _⟩ := h.at (bv_get b 0 (by omega))
  exact ⟨g, cap, rfl, h.2.1, h.2.2.1, h.bytes⟩
set_option maxRecDepth 100000 in
set_option maxHeartbeats 1000000 in
theorem lload_any (w : World) (S : Nat → Prop) (g gl : Nat) (p : PoolF) (L : Ls) (q : Nat × Nat) (b : List UInt8) (h : Sk w S g gl p L) (he : loadF p ⟨(L.r : Int), (L.gen : Int), (q.1 : Int), (q.2 : Int)⟩ = (b, 0)) (h1 : 1 ≤ b.length) :
    Calls Try.prog 55 #[.pointer (some ⟨gl, 0, none⟩), lnk q] w fun e w' => ∃ v, e = .returned v ∧ Gr w w' ∧ LdT b v w' := by
  obtain ⟨q1, q2⟩ := q
  have HH := Lib.hid (fun w' (hg : Gr w w') => handle_any w' g gl L (q1, q2) (h.gr hg).blk)
  have HL := Lib.hid (fun w' (hg : Gr w w') => Load_any w' S g p ⟨(L.r : Int), (L.gen : Int), (q1 : Int), (q2 : Int)⟩ (h.gr hg).pool h.ok)
  have HE := Lib.hid he
  unfold lnk at HH ⊢
  simp only at HE HH ⊢
  rw [HE.out] at HL
  have HB := Lib.hid (h.gr (Gr.alloc w (.cells #[.int .i64 (q1 : Int), .int .i64 (q2 : Int)] 77))).blk
  have g0 := Gr.alloc w (.cells #[.int .i64 (q1 : Int), .int .i64 (q2 : Int)] 77)
  clear h he
  go_enter Try.func55, Try.ntmps55
  go_wp2
  refine region_any_gr _ [Is ?r0x1, Is ?r1x1, Is ?r2x1, Is (.pointer (some ⟨g, 0, none⟩)), Is ?r4x1, Is (.agg #[.int .i64 (q1 : Int), .int .i64 (q2 : Int)]), Is (.agg #[.int .i64 (L.r : Int), .int .i64 (L.gen : Int), .int .i64 (q1 : Int), .int .i64 (q2 : Int)]), LdT b, LdB b, Is (.int .i64 0), LdB b, Is (.int .i64 0)] (by kernel_rfl) (by kernel_rfl) (by kernel_rfl) rfl rfl ⟨Is.stable _, Is.stable _, Is.stable _, Is.stable _, Is.stable _, Is.stable _, Is.stable _, LdT.stable b, LdB.stable b, Is.stable _, LdB.stable b, Is.stable _, trivial⟩ ⟨?s0x1, ?s1x1, ?s2x1, ?s3x1, ?s4x1, ?s5x1, ?s6x1, ?s7x1, ?s8x1, ?s9x1, ?s10x1, ?s11x1, trivial⟩ ?finx1
  case' s0x1 | s1x1 | s2x1 | s3x1 | s4x1 | s5x1 | s6x1 | s7x1 | s8x1 | s9x1 | s10x1 | s11x1 =>
    intro ρ wr hρ hg hK
    simp [readsOf, slotsOf, Op.operands, Call.operands, tmpOf, List.filterMap_cons, List.filterMap_nil, KnownAll, knownOf, srcOf, depsOf, dstOf, Region.binds, nth, Is] at hK
    obtain ⟨hc, hf, hgl⟩ := hρ
    try simp only [wantedBy, dstOf, boolOf, nth, List.getD_cons_zero, List.getD_cons_succ, List.getElem?_cons_zero, List.getElem?_cons_succ, Option.bind_some, if_true, hK, BEq.rfl]
    try go_simp
    first | exact rfl | (rw [if_pos (by omega)]; exact is_here rfl) | (rw [dif_pos (by omega)]; exact is_here rfl) | exact congrArg (Value.int _) (IntWalk.i64_in _ ⟨by omega, by omega⟩) | skip
  case s3x1 =>
    obtain ⟨c1, _, _⟩ := lst_heads (HB.out.gr hg)
    go_simp
    exact rfl
  case s5x1 =>
    obtain ⟨c1, c2, _⟩ := (Blk.of1 hg).two
    go_simp
    exact rfl
  case s6x1 => exact any_gr (HH.out _ (g0.trans hg))
  case s7x1 =>
    refine (HL.out _ (g0.trans hg)).mono ?_
    rintro e w2 ⟨ad, cap, rfl, ho, hg2⟩
    exact ⟨_, rfl, hg2, _, rfl, LdB.of ho h1⟩
  case s8x1 =>
    obtain ⟨s, e, hs⟩ := hK
    rw [e]
    exact ⟨Gr.refl _, hs⟩
  case s9x1 =>
    obtain ⟨s, e, hs⟩ := hK
    rw [e]
    exact is_here rfl
  case finx1 =>
    intro w1 val hg hH
    simp only [Holds, Is, Nat.zero_add, Nat.reduceAdd] at hH
    obtain ⟨h0, h1, h2, h3, h4, h5, h6, h7, h8, h9, h10, h11, _⟩ := hH
    simp only [List.take_succ_cons, List.take_zero, List.drop_succ_cons, List.drop_zero, putAll, h0, h1, h2, h3, h4, h5, h6, h9, h11, Nat.zero_add, Nat.reduceAdd]
    go_simp
    go_wp2
    go_ret2
    exact ⟨_, rfl, g0.trans hg, _, rfl, h10⟩
set_option maxRecDepth 100000 in
set_option maxHeartbeats 1000000 in
theorem next_none (w : World) (g gl : Nat) (L : Ls) (k : Nat) (hb : Blk w gl 80 (lstV g L)) (hk : k < 12) :
    Calls Try.prog 45 #[.pointer (some ⟨gl, 0, none⟩), lnk (0, 0), .int .i64 (k : Int)] w fun e w' => e = .returned (.tuple #[lnk (L.hd k), .int .i64 0]) ∧ Gr w w' := by
  unfold lnk
  generalize hq : L.hd k = q
  obtain ⟨q1, q2⟩ := q
  obtain ⟨c1, c2⟩ := lst_head ((hb.alloc (.cells #[.int .i64 0, .int .i64 0] 77)).alloc (.cells #[.int .i64 0, .int .i64 0] 77)) hk
  rw [hq] at c1 c2
  simp only at c1 c2 ⊢
  clear hq hb
  go_enter Try.func45, Try.ntmps45
  go_wp2
  refine bodyPost_ret (v := .tuple #[.agg #[.int .i64 (q1 : Int), .int .i64 (q2 : Int)], .int .i64 0]) (by simp [results, Try.results45, go_sem]) rfl ⟨rfl, ?_⟩
  exact (Gr.alloc _ _).trans (Gr.alloc _ _)
set_option maxRecDepth 100000 in
set_option maxHeartbeats 1000000 in
theorem next_some (w : World) (S : Nat → Prop) (g gl : Nat) (p : PoolF) (L : Ls) (q : Nat × Nat) (k t : Nat) (f : Nat → Nat × Nat) (c : Ce) (h : Sk w S g gl p L) (he : loadF p ⟨(L.r : Int), (L.gen : Int), (q.1 : Int), (q.2 : Int)⟩ = (nodeB t f c, 0)) (hq : 1 ≤ q.2) (hk : k < t) (t2 : t ≤ 12)
    (hl : (nodeB t f c).length ≤ 2000) (hf1 : (f k).1 < 4294967296) (hf2 : (f k).2 < 4294967296) :
    Calls Try.prog 45 #[.pointer (some ⟨gl, 0, none⟩), lnk q, .int .i64 (k : Int)] w fun e w' => e = .returned (.tuple #[lnk (f k), .int .i64 0]) ∧ Gr w w' := by
  have hlen := nodeB_len t f c
  obtain ⟨l1, l2⟩ := nodeB_link f c hk
  have HL := Lib.hid (fun w' (hg : Gr w w') => lload_any w' S g gl p L q _ (h.gr hg) he (by omega))
  generalize nodeB t f c = b at *
  have HK := Lib.hid (fun gb cap w' hc hb => link_any gb 0 cap k (f k).1 (f k).2 b w' (by omega) (by omega) hl hc hb l1 l2 hf1 hf2)
  obtain ⟨q1, q2⟩ := q
  generalize f k = y at *
  obtain ⟨y1, y2⟩ := y
  unfold lnk at HL HK ⊢
  simp only at hq HL HK ⊢
  have hqb : ((q2 : Int) == 0) = false := by rw [beq_eq_false_iff_ne]; omega
  have g0 : Gr w ((w.alloc (.cells #[.int .i64 (q1 : Int), .int .i64 (q2 : Int)] 77)).alloc (.cells #[.int .i64 0, .int .i64 0] 77)) := (Gr.alloc _ _).trans (Gr.alloc _ _)
  clear he hf1 hf2 l1 l2 hlen hl h
  go_enter Try.func45, Try.ntmps45
  go_wp2_with (first
    | (go_at_call 55; go_must (refine (HL.out _ g0).mono ?_); rintro e w2 ⟨v, rfl, g2, s, rfl, gb, cap, rfl, hc1, hc2, hb⟩; have HB := Lib.hid hb; clear hb)
    | (go_at_call 65; go_must (refine (HK.out _ _ _ hc1 HB.out).mono ?_); rintro e w3 ⟨rfl, g3⟩; obtain ⟨d0, d1, f0, f1⟩ := ((Blk.of2b g2).gr g3).two)
    | fail)
  refine bodyPost_ret (v := .tuple #[.agg #[.int .i64 (y1 : Int), .int .i64 (y2 : Int)], .int .i64 0]) (by simp [results, Try.results45, go_sem, d0, d1]) rfl ⟨rfl, ?_⟩
  have hz : w.heap.size ≤ w.heap.size + 1 := by omega
  exact (((g0.trans g2).trans g3).setCell hz _).setCell hz _
end Go.Proofs.Ytnafhjgfkofkbaa
/- Layer 11 (skip): is a version there; what may be inserted. -/
namespace Go.Proofs.Ytnafhjgfkofkbaa
set_option linter.unusedVariables false
set_option linter.unusedSimpArgs false
open Go.RowKit Ikey Varint
set_option maxRecDepth 100000 in
set_option maxHeartbeats 1000000 in
theorem there_none (w : World) (gl : Nat) (k : List UInt8) (s d : Int) :
    Calls Try.prog 42 #[.pointer (some ⟨gl, 0, none⟩), lnk (0, 0), ver k s d] w fun e w' => e = .returned (.tuple #[.bool false, .int .i64 0]) ∧ Gr w w' := by
  unfold lnk ver
  go_enter Try.func42, Try.ntmps42
  go_wp2
  go_ret2
  exact ⟨rfl, (Gr.alloc _ _).trans (Gr.alloc _ _)⟩
def isV (c : Ce) (v : Vr) : Bool := decide (c.key = v.key) && decide ((c.seq : Int) = v.seq) && decide ((c.kind : Int) = v.kind)
set_option maxRecDepth 100000 in
set_option maxHeartbeats 1000000 in
theorem there_some (w : World) (S : Nat → Prop) (g gl : Nat) (p : PoolF) (L : Ls) (q : Nat × Nat) (v : Vr) (t : Nat) (f : Nat → Nat × Nat) (c : Ce) (h : Sk w S g gl p L) (he : loadF p ⟨(L.r : Int), (L.gen : Int), (q.1 : Int), (q.2 : Int)⟩ = (nodeB t f c, 0)) (hq : 1 ≤ q.2) 
    (t1 : 1 ≤ t) (t2 : t ≤ 12) (hok : okV c.key c.seq c.kind = true) (hv : c.val.length ≤ 1000) :
    Calls Try.prog 42 #[.pointer (some ⟨gl, 0, none⟩), lnk q, ver v.key v.seq v.kind] w fun e w' => e = .returned (.tuple #[.bool (isV c v), .int .i64 0]) ∧ Gr w w' := by
  obtain ⟨k, s, d⟩ := v
  have HL := Lib.hid (fun w' (hg : Gr w w') => lload_any w' S g gl p L q _ (h.gr hg) he (by rw [nodeB_len]; omega))
  have HC := Lib.hid (fun b cap w' hc hcm hb => cell_any b 0 cap _ t f c w' t1 t2 hok hv rfl hc hcm hb)
  have HI := Lib.hid (show isV c ⟨k, s, d⟩ = (decide (c.key = k) && decide ((c.seq : Int) = s) && decide ((c.kind : Int) = d)) from rfl)
  generalize nodeB t f c = b at *
  obtain ⟨q1, q2⟩ := q
  unfold lnk at HL ⊢
  unfold ceV at HC
  unfold ver
  simp only at hq HL HC ⊢
  have hqb : ((q2 : Int) == 0) = false := by rw [beq_eq_false_iff_ne]; omega
  have g0 : Gr w ((w.alloc (.cells #[.int .i64 (q1 : Int), .int .i64 (q2 : Int)] 77)).alloc (.cells #[.string (str k), .int .i64 s, .int .i64 d] 33)) := (Gr.alloc _ _).trans (Gr.alloc _ _)
  clear he h hok hv t1 t2
  obtain ⟨ck, cs, cd, cv⟩ := c
  simp only at HC HI
  go_enter Try.func42, Try.ntmps42
  go_wp2_with (first
    | (go_at_call 55; go_must (refine (HL.out _ g0).mono ?_); rintro e w2 ⟨v, rfl, g2, s, rfl, gb, cap, rfl, hc1, hc2, hb⟩; have HB := Lib.hid hb; clear hb)
    | (go_at_call 56; go_must (refine (HC.out _ _ _ hc1 hc2 HB.out).mono ?_); rintro e w3 ⟨rfl, g3⟩; obtain ⟨d0, d1, d2, _⟩ := (((Blk.of2b g2).gr g3).alloc (.cells #[.string (str ck), .int .i64 (cs : Int), .int .i64 (cd : Int), .string (str cv)] 41)).three)
    | fail)
  all_goals
    go_ret2
    refine ⟨?_, ((g0.trans g2).trans g3).trans (Gr.alloc _ _)⟩
    rw [HI.out]
    simp [*]
end Go.Proofs.Ytnafhjgfkofkbaa
namespace Go.Proofs.Ytnafhjgfkofkbaa
set_option linter.unusedVariables false
set_option linter.unusedSimpArgs false
open Go.RowKit Ikey Varint
/-- behind what a walk stands -/
def Lies (N : List Nd) (o : Option Nd) (b : List Nd) (k : Nat) : Prop := (o = none ∧ b = N) ∨ ∃ a x, o = some x ∧ N = a ++ x :: b ∧ k < x.t
theorem firstN_mem {k : Nat} {b : List Nd} {x : Nd} (h : firstN k b = some x) : x ∈ b := by
  obtain ⟨a, c, rfl, _⟩ := firstN_some h
  simp
theorem linkF_lt {p : PoolF} {r gen : Nat} {hd : Nat → Nat × Nat} {N b : List Nd} (hp : PoolOk p) (h : SkSt p r gen hd N) (hb : ∀ x ∈ b, x ∈ N) (k : Nat) : (linkF (firstN k b)).1 < 4294967296 ∧ (linkF (firstN k b)).2 < 4294967296 := by
  cases hf : firstN k b with
  | none => exact ⟨by decide, by decide⟩
  | some x =>
    have := h.off_lt hp (hb x (firstN_mem hf))
    show x.off < _ ∧ x.size < _
    omega
theorem next_any (w : World) (S : Nat → Prop) (g gl : Nat) (p : PoolF) (L : Ls) (N b : List Nd) (o : Option Nd) (k : Nat) (h : Sk w S g gl p L) (st : SkSt p L.r L.gen L.hd N) (hl : Lies N o b k) (hk : k < 12) :
    Calls Try.prog 45 #[.pointer (some ⟨gl, 0, none⟩), lnk (linkF o), .int .i64 (k : Int)] w fun e w' => e = .returned (.tuple #[lnk (linkF (firstN k b)), .int .i64 0]) ∧ Gr w w' := by
  rcases hl with ⟨rfl, rfl⟩ | ⟨a, x, rfl, hN, hx⟩
  · have := next_none w g gl L k h.blk hk
    rw [st.heads k hk] at this
    exact this
  · have hm : x ∈ N := by rw [hN]; simp
    obtain ⟨n1, n2⟩ := st.node x hm
    have hs := nd_size n1
    have he := st.ld a x b hN
    obtain ⟨l1, l2⟩ := linkF_lt h.ok st (b := b) (fun y hy => by rw [hN]; simp [hy]) k
    exact next_some w S g gl p L (x.off, x.size) k x.t _ x.c h he (by show 1 ≤ x.size; omega) hx n1.t2 (by have h1 := nodeB_len x.t (fun k => linkF (firstN k b)) x.c; have h2 := n1.sz; omega) l1 l2
/-- what is asked of a version by a function value -/
structure Asks (w : World) (K : FuncId) (caps : Array Value) (q : Vr → Bool) : Prop where
  ent : ∀ args w', (callFunc K args).run Try.prog w' = .ok (.enter K args) w'
  ask : ∀ w' u, Gr w w' → Calls Try.prog K (#[ver u.key u.seq u.kind] ++ caps) w' fun e w2 => e = .returned (.bool (q u)) ∧ Gr w' w2
def pathF (A : List Nd) (m : Nat) (k : Nat) : Nat × Nat := if m ≤ k then linkF (lastN k A) else (0, 0)
theorem pathF_all (A : List Nd) : rowV (pathF A 0) 12 = rowV (fun k => linkF (lastN k A)) 12 := rowV_congr 12 fun k _ => by unfold pathF; rw [if_pos (Nat.zero_le _)]
theorem pathF_none (A : List Nd) : rowV (pathF A 12) 12 = rowV (fun _ => (0, 0)) 12 := rowV_congr 12 fun k hk => by unfold pathF; rw [if_neg (by omega)]
theorem pathF_set (A : List Nd) (m : Nat) : upd (pathF A (m + 1)) m (linkF (lastN m A)) = pathF A m := by
  funext k
  unfold upd pathF
  by_cases e : k = m
  · subst e; rw [if_pos rfl, if_pos (Nat.le_refl _)]
  · rw [if_neg e]
    by_cases h : m ≤ k
    · rw [if_pos h, if_pos (by omega)]
    · rw [if_neg h, if_neg (by omega)]
def lkV (q : Nat × Nat) : List Value := [.int .i64 (q.1 : Int), .int .i64 (q.2 : Int)]
theorem ah_store {w W : World} {A : List Nd} {k : Nat} {q : Nat × Nat} (hg : Gr w W) (hb0 : Blk W w.heap.size 78 (rowV (fun _ => (0, 0)) 12)) (hb1 : Blk W (w.heap.size + 1) 78 (rowV (pathF A (k + 1)) 12))
    (hb2 : Blk W (w.heap.size + 1 + 1) 77 (lkV q)) (hk : k < 12) (hl : lastN k A = none ∧ q = (0, 0) ∨ linkF (lastN k A) = q) :
    Gr w ((W.setCell ⟨w.heap.size + 1, k * 2, none⟩ (.int .i64 (q.1 : Int))).setCell ⟨w.heap.size + 1, k * 2 + 1, none⟩ (.int .i64 (q.2 : Int))) ∧
    Blk ((W.setCell ⟨w.heap.size + 1, k * 2, none⟩ (.int .i64 (q.1 : Int))).setCell ⟨w.heap.size + 1, k * 2 + 1, none⟩ (.int .i64 (q.2 : Int))) w.heap.size 78 (rowV (fun _ => (0, 0)) 12) ∧
    Blk ((W.setCell ⟨w.heap.size + 1, k * 2, none⟩ (.int .i64 (q.1 : Int))).setCell ⟨w.heap.size + 1, k * 2 + 1, none⟩ (.int .i64 (q.2 : Int))) (w.heap.size + 1) 78 (rowV (pathF A k) 12) ∧
    Blk ((W.setCell ⟨w.heap.size + 1, k * 2, none⟩ (.int .i64 (q.1 : Int))).setCell ⟨w.heap.size + 1, k * 2 + 1, none⟩ (.int .i64 (q.2 : Int))) (w.heap.size + 1 + 1) 77 (lkV q) := by
  have hl' : linkF (lastN k A) = q := by
    rcases hl with ⟨h1, h2⟩ | h
    · rw [h1, h2]; rfl
    · exact h
  have h1 := (hb1.set_ (k * 2) (.int .i64 (q.1 : Int))).set_ (k * 2 + 1) (.int .i64 (q.2 : Int))
  rw [rowV_set _ q 12 k hk, ← hl', pathF_set] at h1
  rw [hl'] at h1
  refine ⟨(hg.setCell (Nat.le_succ _) _).setCell (Nat.le_succ _) _, (hb0.far (by simp) _).far (by simp) _, h1, (hb2.far (by simp) _).far (by simp) _⟩
set_option maxRecDepth 100000 in
set_option maxHeartbeats 4000000 in
theorem ahead_any (w : World) (S : Nat → Prop) (g gl : Nat) (p : PoolF) (L : Ls) (A B : List Nd) (K : FuncId) (caps : Array Value) (q : Vr → Bool) (h : Sk w S g gl p L) (st : SkSt p L.r L.gen L.hd (A ++ B)) (full : ∀ x ∈ A ++ B, x.h = x.t)
    (hq : Asks w K caps q) (hA : ∀ x ∈ A, q x.c.vr = true) (hB : ∀ x ∈ B, q x.c.vr = false) :
    Calls Try.prog 59 #[.pointer (some ⟨gl, 0, none⟩), .func (.func K) #[] caps] w fun e w' => e = .returned (.tuple #[.agg (rowV (fun k => linkF (lastN k A)) 12).toArray, .int .i64 0]) ∧ Gr w w' := by
  have HS := Lib.hid h
  have HST := Lib.hid st
  have HF := Lib.hid full
  have HQ := Lib.hid hq
  have HA := Lib.hid hA
  have HB := Lib.hid hB
  have b0 := Blk.of3a (w := w) (t := 78) (cs := (rowV (fun _ => (0, 0)) 12).toArray) (o := .cells (rowV (fun _ => (0, 0)) 12).toArray 78) (o' := .cells #[.int .i64 0, .int .i64 0] 77) (Gr.refl _)
  have b1 := Blk.of3b (w := w) (t := 78) (cs := (rowV (fun _ => (0, 0)) 12).toArray) (o := .cells (rowV (fun _ => (0, 0)) 12).toArray 78) (o' := .cells #[.int .i64 0, .int .i64 0] 77) (Gr.refl _)
  have b2 := Blk.of3c (w := w) (t := 77) (cs := #[.int .i64 0, .int .i64 0]) (o := .cells (rowV (fun _ => (0, 0)) 12).toArray 78) (o' := .cells (rowV (fun _ => (0, 0)) 12).toArray 78) (Gr.refl _)
  have g0 : Gr w (((w.alloc (.cells (rowV (fun _ => (0, 0)) 12).toArray 78)).alloc (.cells (rowV (fun _ => (0, 0)) 12).toArray 78)).alloc (.cells #[.int .i64 0, .int .i64 0] 77)) := ((Gr.alloc _ _).trans (Gr.alloc _ _)).trans (Gr.alloc _ _)
  rw [← pathF_none A] at b1
  have HB0 := Lib.hid b0; have HB1 := Lib.hid b1; have HB2 := Lib.hid b2; have G0 := Lib.hid g0
  clear h st full hq hA hB b0 b1 b2 g0
  go_enter Try.func59, Try.ntmps59
  go_wp2
  go_loopw [8] (fun v wr => ∃ (m : Nat) (d r : List Nd), m ≤ 12 ∧ v = .int .i64 ((m : Int) - 1) ∧ A = d ++ r ∧ (∀ x, d.getLast? = some x → m < x.h) ∧ Gr w wr ∧ Blk wr w.heap.size 78 (rowV (fun _ => (0, 0)) 12) ∧
    Blk wr (w.heap.size + 1) 78 (rowV (pathF A m) 12) ∧ Blk wr (w.heap.size + 1 + 1) 77 (lkV (linkF d.getLast?))) (fun v _ => (intOf v + 1).toNat)
  case atStart => exact ⟨12, [], A, Nat.le_refl _, rfl, rfl, fun x hx => by simp at hx, G0.out, HB0.out, HB1.out, HB2.out⟩
  case round =>
    clear HB0 HB1 HB2 G0
    obtain ⟨m0, d, r, hm, rfl, hAdr, hlast, hg, hb0, hb1, hb2⟩ := hrel
    rcases m0 with _ | k
    · rw [pathF_all] at hb1
      clear hAdr hlast hb2 hm
      go_wp2_with (first
        | ((with_reducible show Go.wpList _ _ _ (Oper.mk _ (Op.load 78 _) _ _ _ _ :: _) _ _); go_must (refine wp_load_blk rfl _ _ rfl rfl hb1 Try.underlying78 rfl (n := 24) (by kernel_rfl) (rowV_len _ 12) ?_))
        | ((with_reducible show Go.wpList _ _ _ (Oper.mk _ (Op.store 78 _ _) _ _ _ _ :: _) _ _); go_must (refine wp_store_blk rfl _ _ _ rfl rfl rfl hb0 (n := 24) (by kernel_rfl) (rowV_len _ 12) (rowV_len _ 12) (rowV_one _ 12) ?_))
        | fail)
      refine bodyPost_ret (results_cell_tmp rfl rfl (load_blk (hb0.setRow' _) Try.underlying78 rfl (n := 24) (by kernel_rfl) (rowV_len _ 12))) rfl ⟨rfl, gr_setRow hg (Nat.le_refl _) _⟩
    · have hk : k < 12 := by omega
      have hkI : ((k + 1 : Nat) : Int) - 1 = (k : Int) := by omega
      rw [hkI]
      have HADR := Lib.hid hAdr
      have HLAST := Lib.hid (show ∀ x, d.getLast? = some x → k < x.h from fun x hx => by have := hlast x hx; omega)
      have HG := Lib.hid hg
      have HB0 := Lib.hid hb0; have HB1 := Lib.hid hb1; have HB2 := Lib.hid hb2
      clear hAdr hlast hg hb0 hb1 hb2 hkI hm
      go_wp2
      go_loopg [] r.length (fun n wi => ∃ (d r : List Nd), r.length ≤ n ∧ A = d ++ r ∧ (∀ x, d.getLast? = some x → k < x.h) ∧ Gr w wi ∧ Blk wi w.heap.size 78 (rowV (fun _ => (0, 0)) 12) ∧
        Blk wi (w.heap.size + 1) 78 (rowV (pathF A (k + 1)) 12) ∧ Blk wi (w.heap.size + 1 + 1) 77 (lkV (linkF d.getLast?)))
      case atStart => exact ⟨d, r, Nat.le_refl _, HADR.out, HLAST.out, HG.out, HB0.out, HB1.out, HB2.out⟩
      case round =>
        clear HADR HLAST HG HB0 HB1 HB2
        obtain ⟨d, r, hr, hAdr, hlast, hg, hb0, hb1, hb2⟩ := hrel
        have HLI := Lib.hid (show Lies (A ++ B) d.getLast? (r ++ B) k by
          rcases List.eq_nil_or_concat d with rfl | ⟨d', x, rfl⟩
          · exact .inl ⟨rfl, by rw [hAdr]; simp⟩
          · rw [List.concat_eq_append] at hAdr hlast ⊢
            have hx := hlast x (by simp)
            have hm : x ∈ A ++ B := by rw [hAdr]; simp
            exact .inr ⟨d', x, by simp, by rw [hAdr]; simp, by have := HF.out x hm; omega⟩)
        have HNX := Lib.hid (fun w' (hg' : Gr w w') => next_any w' S g gl p L (A ++ B) (r ++ B) d.getLast? k (HS.out.gr hg') HST.out HLI.out hk)
        obtain ⟨e0, e1, _, _⟩ := hb2.two
        have HADR := Lib.hid hAdr; have HLAST := Lib.hid hlast; have HG := Lib.hid hg; have HR := Lib.hid hr
        have HB0 := Lib.hid hb0; have HB1 := Lib.hid hb1; have HB2 := Lib.hid hb2
        have hsz := hg.size
        have hl2 := hb2.lt
        clear hAdr hlast hg hb0 hb1 hb2 HLI hr
        unfold lnk at HNX
        cases hfn : firstN k (r ++ B) with
        | none =>
          rw [hfn] at HNX
          unfold linkF at HNX
          have HFN := Lib.hid hfn
          clear hfn
          go_wp2_with (first
            | (go_at_call 45; go_must (refine (HNX.out _ HG.out).mono ?_); rintro e w2 ⟨rfl, g2⟩
               have G2 := g2.trans (Gr.alloc w2 (.cells #[.int .i64 0, .int .i64 0] 77))
               obtain ⟨x0, x1, _, _⟩ := (HB2.out.gr G2).two
               have hb1 := HB1.out.gr G2
               have y0 := hb1.cell (rowV_get _ 12 k hk).1
               have y1 := hb1.cell (rowV_get _ 12 k hk).2
               have z0 := hb1.frozen (k * 2)
               have z1 := hb1.frozen (k * 2 + 1)
               have GW := HG.out.trans G2
               have HB1' := Lib.hid hb1
               clear hb1)
            | fail)
          go_roundw
          case rel =>
            have hall : ∀ n ∈ r, n.h ≤ k := fun n hn => firstN_none.1 HFN.out n (List.mem_append_left _ hn)
            refine ⟨k, d, r, by omega, rfl, HADR.out, HLAST.out, ah_store GW (HB0.out.gr G2) HB1'.out (HB2.out.gr G2) hk (.inr ?_)⟩
            rw [HADR.out, lastN_done hall HLAST.out]
          case measure => simp [intOf]
        | some x =>
          obtain ⟨a1, b1, hsp, _, _⟩ := firstN_some hfn
          have hN : A ++ B = (d ++ a1) ++ x :: b1 := by rw [HADR.out, List.append_assoc, hsp, List.append_assoc]
          have hxm : x ∈ A ++ B := by rw [hN]; simp
          obtain ⟨n1, _⟩ := HST.out.node x hxm
          have hs14 := (nd_size n1).1
          have hbl := nodeB_len x.t (fun k => linkF (firstN k b1)) x.c
          have HLD := Lib.hid (fun w' (hg' : Gr w w') => lload_any w' S g gl p L (x.off, x.size) _ (HS.out.gr hg') (HST.out.ld _ x b1 hN) (by omega))
          have HCE := Lib.hid (fun b cap w' hc hcm hb => cell_any b 0 cap _ x.t (fun k => linkF (firstN k b1)) x.c w' n1.t1 n1.t2 n1.ok n1.vl rfl hc hcm hb)
          have HST2 := Lib.hid (step_done (d := d) (fun y => q y.c.vr) (fun n hn => HA.out n (by rw [HADR.out]; simp [hn])) HB.out hfn)
          have hxz : ((x.size : Int) == 0) = false := by rw [beq_eq_false_iff_ne]; omega
          rw [hfn] at HNX
          have hlk : linkF (some x) = (x.off, x.size) := rfl
          rw [hlk] at HNX
          unfold lnk at HLD
          unfold ceV at HCE
          simp only at HLD HCE HNX
          generalize nodeB x.t (fun k => linkF (firstN k b1)) x.c = bb at *
          clear hfn hsp hN hxm n1 hbl hlk
          have HASK := Lib.hid (fun w' (hg' : Gr w w') => HQ.out.ask w' x.c.vr hg')
          unfold ver Ce.vr at HASK
          have hent := HQ.out.ent
          have hb02 : w.heap.size ≤ w.heap.size + 1 + 1 := by omega
          cases hqx : q x.c.vr with
          | true =>
            unfold Ce.vr at hqx
            rw [hqx] at HASK
            obtain ⟨a2, c2, hr2, hk2, hl2', hd2⟩ := HST2.out.1 hqx
            have HQ2 := Lib.hid hr2; have HK2 := Lib.hid hk2; have HL2 := Lib.hid hl2'; have HD2 := Lib.hid hd2
            clear hqx HST2 hr2 hk2 hl2' hd2
            go_wp2_with (first
              | (go_at_call 45; go_must (refine (HNX.out _ HG.out).mono ?_); rintro e w2 ⟨rfl, g2⟩)
              | (go_at_call 55; go_must (refine (HLD.out _ (HG.out.trans (g2.trans (Gr.alloc _ _)))).mono ?_); rintro e w3 ⟨v, rfl, g3, s, rfl, gb, cap, rfl, hc1, hc2, hb⟩; have HBY := Lib.hid hb; clear hb)
              | (go_at_call 56; go_must (refine (HCE.out _ _ _ hc1 hc2 HBY.out).mono ?_); rintro e w4 ⟨rfl, g4⟩)
              | (with_reducible show Calls _ K _ _ _
                 go_must (refine (HASK.out _ (HG.out.trans ((((g2.trans (Gr.alloc _ _)).trans g3).trans g4).trans (Gr.alloc _ _)))).mono ?_); rintro e w5 ⟨rfl, g5⟩
                 have G5 := (((((Gr.alloc w2 (.cells #[.int .i64 (x.off : Int), .int .i64 (x.size : Int)] 77)).trans g3).trans g4).trans (Gr.alloc _ _)).trans g5)
                 have G5w := HG.out.trans (g2.trans G5)
                 obtain ⟨x0, x1, _, _⟩ := (Blk.of1 (g3.trans (g4.trans ((Gr.alloc _ _).trans g5)))).two
                 have hb2 := HB2.out.gr (g2.trans G5)
                 obtain ⟨y0, y1, z0, z1⟩ := hb2.two
                 have HB2' := Lib.hid hb2
                 clear hb2)
              | fail)
            go_roundg c2.length
            case measure => have h1 := HR.out; rw [HQ2.out] at h1; simp at h1; omega
            case rel =>
              have e1 := HL2.out
              refine ⟨d ++ a2 ++ [x], c2, Nat.le_refl _, by rw [HADR.out]; exact HD2.out, fun y hy => ?_, (G5w.setCell hb02 _).setCell hb02 _, ((HB0.out.gr (g2.trans G5)).far (by simp; omega) _).far (by simp; omega) _, ((HB1.out.gr (g2.trans G5)).far (by simp) _).far (by simp) _, ?_⟩
              · rw [e1] at hy; cases hy; exact HK2.out
              · rw [e1]
                have h3 := (HB2'.out.set_ 0 (.int .i64 (x.off : Int))).set_ 1 (.int .i64 (x.size : Int))
                exact h3
          | false =>
            unfold Ce.vr at hqx
            rw [hqx] at HASK
            have hall := HST2.out.2 hqx
            have HALL := Lib.hid hall
            clear hqx HST2 hall
            go_wp2_with (first
              | (go_at_call 45; go_must (refine (HNX.out _ HG.out).mono ?_); rintro e w2 ⟨rfl, g2⟩)
              | (go_at_call 55; go_must (refine (HLD.out _ (HG.out.trans (g2.trans (Gr.alloc _ _)))).mono ?_); rintro e w3 ⟨v, rfl, g3, s, rfl, gb, cap, rfl, hc1, hc2, hb⟩; have HBY := Lib.hid hb; clear hb)
              | (go_at_call 56; go_must (refine (HCE.out _ _ _ hc1 hc2 HBY.out).mono ?_); rintro e w4 ⟨rfl, g4⟩)
              | (with_reducible show Calls _ K _ _ _
                 go_must (refine (HASK.out _ (HG.out.trans ((((g2.trans (Gr.alloc _ _)).trans g3).trans g4).trans (Gr.alloc _ _)))).mono ?_); rintro e w5 ⟨rfl, g5⟩
                 have G5 := (((((Gr.alloc w2 (.cells #[.int .i64 (x.off : Int), .int .i64 (x.size : Int)] 77)).trans g3).trans g4).trans (Gr.alloc _ _)).trans g5)
                 have G5w := HG.out.trans (g2.trans G5)
                 obtain ⟨x0, x1, _, _⟩ := (Blk.of1 (g3.trans (g4.trans ((Gr.alloc _ _).trans g5)))).two
                 have hb2 := HB2.out.gr (g2.trans G5)
                 obtain ⟨y0, y1, z0, z1⟩ := hb2.two
                 have HB2' := Lib.hid hb2
                 clear hb2
                 have hb1 := HB1.out.gr (g2.trans G5)
                 have p0 := hb1.cell (rowV_get _ 12 k hk).1
                 have p1 := hb1.cell (rowV_get _ 12 k hk).2
                 have q0 := hb1.frozen (k * 2)
                 have q1 := hb1.frozen (k * 2 + 1)
                 have HB1' := Lib.hid hb1
                 clear hb1)
              | fail)
            go_roundw
            case rel =>
              refine ⟨k, d, r, by omega, rfl, HADR.out, HLAST.out, ah_store G5w (HB0.out.gr (g2.trans G5)) HB1'.out HB2'.out hk (.inr ?_)⟩
              rw [HADR.out, lastN_done HALL.out HLAST.out]
            case measure => simp [intOf]
end Go.Proofs.Ytnafhjgfkofkbaa
