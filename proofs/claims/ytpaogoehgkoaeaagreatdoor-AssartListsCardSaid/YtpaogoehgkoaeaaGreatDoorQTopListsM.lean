/- The statements through the layers: a list and epochs in one pool. -/
import Derived.Test.YtpaogoehgkoaeaaGreatDoorQEpCollect
import Derived.Test.YtpaogoehgkoaeaaGreatDoorQBunS3
import Derived.Test.YtpaogoehgkoaeaaGreatDoorQBunS2
import Derived.Test.YtpaogoehgkoaeaaGreatDoorQBunB4
namespace Go.Proofs.YtpaogoehgkoaeaaGreatDoor
set_option linter.unusedVariables false
set_option linter.unusedSimpArgs false
open Go.RowKit Go.Maps Ikey Varint
theorem SkSt.keep {p p' : PoolF} {r gen : Nat} {hd : Nat → Nat × Nat} {N : List Nd} (h : SkSt p r gen hd N) (hs : p'.size = p.size) (hl : landAt p' r = landAt p r) (hp : ∀ y o l, Pc p y r o l → Pc p' y r o l ∧ loadF p' y = loadF p y) : SkSt p' r gen hd N :=
  ⟨h.hr, by rw [hl]; exact h.there, by rw [hs]; exact h.sz, h.heads, fun x hx => ⟨(h.node x hx).1, (hp _ _ _ (h.node x hx).2).1⟩, fun a x b e => by
    rw [(hp _ _ _ (h.node x (by rw [e]; simp)).2).2]
    exact h.ld a x b e, h.sorted, h.apart⟩
theorem Cursor_any (gl : Nat) (w : World) :
    Calls Tryz.prog 23 #[.pointer (some ⟨gl, 0, none⟩)] w fun e w' => e = .returned (.pointer (some ⟨w.heap.size, 0, none⟩)) ∧ Blk w' w.heap.size 151 (curV gl 0 (0, 0)) ∧ Gr w w' := by
  go_enter Tryz.func23, Tryz.ntmps23
  go_wp2
  go_ret
  exact ⟨rfl, Blk.new w _ _, Gr.alloc _ _⟩
theorem Sl.chg {w0 w w' : World} {S T : Nat → Prop} {g gl : Nat} {p : PoolF} {L : Ls} {N : List Nd} (h : Sl w0 w S g gl p L N) (k : Chg T w w') (hd : ∀ j, S j → ¬ T j) (hl : ¬ T gl) (hb : ∀ j, T j → w0.heap.size ≤ j) : Sl w0 w' S g gl p L N :=
  ⟨⟨h.sk.pool.chg k hd, h.sk.ok, k.blk h.sk.blk hl, h.sk.out⟩, h.st, h.full, h.cnt, h.wt, h.fd, k.gr h.gr hb, h.base, h.bl⟩
theorem first_head {B : List Nd} (h : ∀ x ∈ B, 0 < x.h) : firstN 0 B = B.head? := firstN_zero h
def poolP (a n : Nat) : PoolF := makeAt (newF a n) 0
theorem poolP_make (a n : Nat) : makeR (newF a n) = (0, 0, poolP a n) := by
  have h : makeF (newF a n) = some 0 := makeF_is (by decide) (by rw [landAt_new]; rfl) (fun j hj => absurd hj (Nat.not_lt_zero j))
  unfold makeR
  rw [h]
  rfl
theorem landAt_poolP (a n j : Nat) : landAt (poolP a n) j = if 0 = j then ⟨true, 1, [], 0⟩ else noLand := by
  unfold poolP makeAt
  rw [landAt_set _ _ _ _ (by show 0 < (List.replicate 256 noLand).length; rw [List.length_replicate]; decide), landAt_new]
  split <;> first | rfl | exact landAt_new _ _ _
theorem countF_poolP (a n : Nat) : countF (poolP a n) = n := by
  show ((List.replicate n false).filter (!·)).length = n
  rw [List.filter_replicate]
  simp
theorem Sl.pos {w0 w : World} {S : Nat → Prop} {g gl : Nat} {p : PoolF} {L : Ls} {N : List Nd} (h : Sl w0 w S g gl p L N) : ∀ x ∈ N, 0 < x.h := fun x hx => by
  have h1 := (h.st.node x hx).1.t1
  have h2 := h.full x hx
  omega
/-- another's call in the pool -/
theorem Sl.other {w0 w w' : World} {S S' T : Nat → Prop} {g gl : Nat} {p p' : PoolF} {L : Ls} {N : List Nd} (h : Sl w0 w S g gl p L N) (hP : PoolAt w' S' g p') (ok' : PoolOk p') (hc : Chg T w w') (hgl : ¬ T gl) (hT : ∀ j, T j → w0.heap.size ≤ j) (hsub : ∀ j, S' j → S j ∨ w.heap.size ≤ j)
    (hs : p'.size = p.size) (hl : landAt p' L.r = landAt p L.r) (hp : ∀ y o l, Pc p y L.r o l → Pc p' y L.r o l ∧ loadF p' y = loadF p y) : Sl w0 w' S' g gl p' L N :=
  ⟨⟨hP, ok', hc.blk h.sk.blk hgl, fun e => (hsub gl e).elim h.sk.out (fun e => by have := h.sk.blk.lt; omega)⟩, h.st.keep hs hl hp, h.full, h.cnt, h.wt, h.fd, hc.gr h.gr hT, fun j hj => (hsub j hj).elim (h.base j) (fun e => Nat.le_trans h.gr.size e), h.bl⟩
/-- one version ahead of all -/
theorem ins_desc {C : List Ce} {A : List Ci} {c : Ci} (hC : ci C = A) (hA : ∀ x ∈ A, AscI c x) (hc : okT c = true) {t : Int} (h1 : 1 ≤ t) (h2 : t ≤ 12) :
    (insF C false c.key c.seq c.kind c.val t).1 = 0 ∧ ci (insF C false c.key c.seq c.kind c.val t).2 = c :: A := by
  unfold okT at hc
  rw [Bool.and_eq_true, decide_eq_true_eq] at hc
  obtain ⟨ho, hv⟩ := hc
  obtain ⟨_, _, k1, k2, k3⟩ := okV_of ho
  have hn : ∀ x ∈ C, aheadC ⟨c.key, c.seq, c.kind⟩ x = false := fun x hx => by
    have h3 : vless c.vr x.i.vr = true := hA x.i (by rw [← hC]; exact List.mem_map_of_mem hx)
    exact vless_asymm h3
  have hd : C.dropWhile (aheadC ⟨c.key, c.seq, c.kind⟩) = C := by
    cases C with
    | nil => rfl
    | cons x B => rw [List.dropWhile_cons, hn x (by simp)]; simp
  have ht : C.takeWhile (aheadC ⟨c.key, c.seq, c.kind⟩) = [] := by
    cases C with
    | nil => rfl
    | cons x B => rw [List.takeWhile_cons, hn x (by simp)]; simp
  have hk : chkI false false c.key c.seq c.kind c.val t = 0 := by
    unfold chkI
    rw [if_neg (by simp), if_neg (by rw [ho]; simp; omega), if_neg (by omega)]
  have hi : Ce.i ⟨c.key, c.seq.toNat, c.kind.toNat, c.val⟩ = c := by
    obtain ⟨k, s, d, v⟩ := c
    simp only at k1 k2 k3
    unfold Ce.i
    simp only
    rw [Int.toNat_of_nonneg (by omega), Int.toNat_of_nonneg (by omega)]
  unfold insF
  rw [if_neg (by rw [hk]; simp), hd, ht]
  cases C with
  | nil =>
    refine ⟨rfl, ?_⟩
    rw [← hC]
    show [Ce.i _] = _
    rw [hi]
    rfl
  | cons x B =>
    have hx : ¬ isV x ⟨c.key, c.seq, c.kind⟩ = true := fun e => by
      have h3 : vless c.vr x.i.vr = true := hA x.i (by rw [← hC]; exact List.mem_map_of_mem (by simp))
      have h4 : x.vr = ⟨c.key, c.seq, c.kind⟩ := isV_iff.1 e
      have h5 : x.i.vr = c.vr := h4
      rw [h5, vless_irr] at h3
      cases h3
    show (if isV x ⟨c.key, c.seq, c.kind⟩ = true then ((8, x :: B) : Nat × List Ce) else (0, [] ++ ⟨c.key, c.seq.toNat, c.kind.toNat, c.val⟩ :: x :: B)).1 = 0 ∧ ci (if isV x ⟨c.key, c.seq, c.kind⟩ = true then ((8, x :: B) : Nat × List Ce) else (0, [] ++ ⟨c.key, c.seq.toNat, c.kind.toNat, c.val⟩ :: x :: B)).2 = _
    rw [if_neg hx]
    refine ⟨rfl, ?_⟩
    rw [← hC]
    show Ce.i _ :: ci (x :: B) = _
    rw [hi]
structure LsI (w0 w : World) (S : Nat → Prop) (g gl ge bl bp now : Nat) (p : PoolF) (L : Ls) (N : List Nd) (K : List Era) (A : List Ci) (m q : Nat) : Prop where
  sl : Sl w0 w S g gl p L N
  ca : ci (cellsN N) = A
  fz : L.fz = false
  ep : Ep w g ge bl bp now K
  out : ∀ j, epB ge bl bp K j → ¬ S j ∧ j ≠ gl ∧ w0.heap.size ≤ j
  cnt : m ≤ countF p
  size : p.size = 4096
  er : ∀ e ∈ K, e.r ≠ L.r ∧ (landAt p e.r).there = true
  oth : ∀ j, (landAt p j).there = true → j = L.r ∨ ∃ e ∈ K, j = e.r
  gen : ∀ i, (landAt p i).gen ≤ q
  rd : K.Pairwise fun a b => a.r ≠ b.r
/-- a list of these versions and these epochs, in one pool -/
def LsW (w0 : World) (g gl ge bl bp now : Nat) (K : List Era) (A : List Ci) (m q : Nat) (w : World) : Prop := ∃ S p L N, LsI w0 w S g gl ge bl bp now p L N K A m q
theorem there_lt {p : PoolF} (ok : PoolOk p) {j : Nat} (h : (landAt p j).there = true) : j < 256 := by
  rcases Nat.lt_or_ge j 256 with h1 | h1
  · exact h1
  · unfold landAt at h
    rw [List.getD_eq_getElem?_getD, List.getElem?_eq_none (by rw [ok.ln]; exact h1)] at h
    cases h
section
variable {w0 w w' : World} {g gl ge bl bp now m q : Nat} {K : List Era} {A : List Ci}
theorem LsW.gr (h : LsW w0 g gl ge bl bp now K A m q w) : Gr w0 w := by
  obtain ⟨S, p, L, N, h⟩ := h
  exact h.sl.gr
theorem LsW.more (h : LsW w0 g gl ge bl bp now K A m q w) (k : Gr w w') : LsW w0 g gl ge bl bp now K A m q w' := by
  obtain ⟨S, p, L, N, h⟩ := h
  exact ⟨S, p, L, N, h.sl.more k, h.ca, h.fz, h.ep.gr k, h.out, h.cnt, h.size, h.er, h.oth, h.gen, h.rd⟩
theorem LsW.le (h : LsW w0 g gl ge bl bp now K A m q w) {m' : Nat} (hm : m' ≤ m) : LsW w0 g gl ge bl bp now K A m' q w := by
  obtain ⟨S, p, L, N, h⟩ := h
  exact ⟨S, p, L, N, h.sl, h.ca, h.fz, h.ep, h.out, Nat.le_trans hm h.cnt, h.size, h.er, h.oth, h.gen, h.rd⟩
theorem LsW.ins (h : LsW w0 g gl ge bl bp now K A (m + 1) q w) {c : Ci} (hA : ∀ x ∈ A, AscI c x) (hc : okT c = true) {t : Int} (h1 : 1 ≤ t) (h2 : t ≤ 12) (hl : A.length ≤ 1000) :
    Calls Tryz.prog 18 #[.pointer (some ⟨gl, 0, none⟩), .agg #[.string (str c.key), .int .i64 c.seq, .int .i64 c.kind, .string (str c.val)], .int .i64 t] w fun e w' => e = .returned (.int .i64 0) ∧ LsW w0 g gl ge bl bp now K (c :: A) m q w' := by
  obtain ⟨S, p, L, N, h⟩ := h
  have hv : c.val.length ≤ 1000 := by
    unfold okT at hc
    rw [Bool.and_eq_true, decide_eq_true_eq] at hc
    exact hc.2
  have hN : N.length ≤ 1000 := by
    have := congrArg List.length h.ca
    rw [ci_len] at this
    simp only [cellsN, List.length_map] at this
    omega
  have hi := ins_desc h.ca hA hc h1 h2
  have hcnt := h.cnt
  have := Insert_sl h.sl c.key c.seq c.kind c.val t (by omega) (by omega) hN
  rw [h.fz, hi.1] at this
  refine this.mono ?_
  rintro e w' ⟨he, p', S', L', N', s1, s2, s3, s4, s5, s6, s7, s8, s9⟩
  have hout : ∀ j, epB ge bl bp K j → ¬ S' j := fun j hj e => (s9.sub j e).elim (h.out j hj).1 (fun e => by have := h.ep.lt hj; omega)
  refine ⟨he, S', p', L', N', s1, by rw [s2]; exact hi.2, s5, h.ep.keep (fun j hj => s9.chg.block j (h.ep.lt hj) (fun e => e.elim (h.out j hj).1 (h.out j hj).2.1)), fun j hj => ⟨hout j hj, (h.out j hj).2⟩, by omega, s7.size.trans h.size, fun e he => ?_, fun j hj => ?_, fun i => ?_, h.rd⟩
  · obtain ⟨a1, a2⟩ := h.er e he
    rw [s6]
    exact ⟨a1, by rw [s7.land _ a1]; exact a2⟩
  · rw [s6]
    by_cases e : j = L.r
    · exact .inl e
    · rw [s7.land j e] at hj
      exact h.oth j hj
  · by_cases e : i = L.r
    · rw [e, s7.gen]; exact h.gen _
    · rw [s7.land i e]; exact h.gen _
theorem filter_le : ∀ (A B : List Bool), A.length = B.length → (∀ i, B.getD i false = true → A.getD i false = true) → (A.filter (!·)).length ≤ (B.filter (!·)).length
  | [], [], _, _ => Nat.le_refl _
  | [], b :: B, h, _ => by simp at h
  | a :: A, [], h, _ => by simp at h
  | a :: A, b :: B, h, hi => by
    have h1 := filter_le A B (by simpa using h) (fun i hb => by
      have := hi (i + 1)
      simpa using this (by simpa using hb))
    have h0 := hi 0
    simp at h0
    cases a <;> cases b <;> simp_all <;> omega
theorem LsW.retire {w1 : World} {E : Era} (h : LsW w0 g gl ge bl bp now [E] A (m + 1) q w1) (hk : E.k = now) (k1 : Gr w1 w) (ad : Option Addr) (cap : Nat) (b : List UInt8) (n : Nat) (hn : b.length = n) (hb : Bytes w ad b) (hnad : ∀ x, ad = some x → w1.heap.size ≤ x.block ∧ x.block < w.heap.size) (h1 : 1 ≤ n) (h64 : n ≤ 64) (hm : E.m ≤ 1000) (hc : E.c ≤ 1000000) (hnow : now ≤ 1000000) (hq : q ≤ 1000000) :
    Calls Tryz.prog 19 #[.pointer (some ⟨ge, 0, none⟩), .slice ad n cap] w fun e w' => (∃ a b c d : Int, e = .returned (.tuple #[.agg #[.int .i64 (now : Int), .int .i64 a, .int .i64 b, .int .i64 c, .int .i64 d], .int .i64 0])) ∧ LsW w0 g gl ge bl bp now [{ E with m := E.m + 1, c := E.c + n }] A m q w' := by
  obtain ⟨S, p, L, N, h⟩ := h
  have ok := h.sl.sk.ok
  obtain ⟨hne, hth⟩ := h.er E (by simp)
  have hi := there_lt ok hth
  have hlF := landF_of hi hth
  have hsz := h.size
  have hcn := h.cnt
  rcases alloc_cases (p := p) (n := (n : Int)) (a := 1) hlF (by omega) (by omega) (by decide) with ⟨y, p1, hal⟩ | ⟨_, hid⟩
  · obtain ⟨i, o, e1, e2, e3, _, e5, e6, e7, e8, _, _⟩ := alloc_pcs ok hal
    rw [hlF] at e1
    obtain rfl := Option.some.inj e1
    have ok1 : PoolOk p1 := by have := alloc_ok ok (E.r : Int) (n : Int) 1; rw [hal] at this; exact this
    have hnt : (n : Int).toNat = n := by omega
    rw [hnt] at e2
    obtain ⟨p2, hst, s1, s2, s3, s4, _, s6⟩ := store_pcs ok1 e2 0 b (by omega)
    have ok2 : PoolOk p2 := by have := store_ok ok1 y ((0 : Nat) : Int) b; rw [hst] at this; exact this
    have hland : ∀ j, landAt p2 j = landAt p1 j := fun j => by unfold landAt; rw [s4]
    have hal2 := alloc_land ok hal
    have hg7 := e7 E.r hi
    have hy : OkHd y := by
      have a1 := e2.reg
      have a2 := e2.gen
      have a3 := e2.off
      have a4 := e2.len
      have a5 := e2.fit
      have a6 := (ok1.ld E.r hi).fill_le
      have a7 := (ok1.ld E.r hi).cap ok1
      have a8 := hg7.gen
      have a9 := h.gen E.r
      refine ⟨⟨by omega, by omega⟩, ⟨by omega, by omega⟩, ⟨by omega, by omega⟩, ⟨by omega, by omega⟩⟩
    obtain ⟨yr, yg, yo, yl⟩ := y
    have hepw := h.ep.gr k1
    have hSlt := h.sl.sk.pool.lt
    have := Retire_any hepw hk (h.sl.sk.pool.gr k1) ok ok1 (fun j hj => (h.out j hj).1) ad cap b n hn hb (fun x hx => ⟨(hnad x hx).2, fun e => by have := hSlt _ e; have := (hnad x hx).1; omega⟩) hal hst hy hm hc (by omega) hnow
    refine this.mono ?_
    rintro e w' ⟨he, S', hE', hP', hsub, hch⟩
    refine ⟨⟨_, _, _, _, he⟩, S', p2, L, N, ?_, h.ca, h.fz, hE', fun j hj => ?_, ?_, by rw [s1, e5]; exact hsz, fun e he => ?_, fun j hj => ?_, fun i => ?_, List.pairwise_singleton _ _⟩
    · refine (h.sl.more k1).other hP' ok2 hch ?_ ?_ hsub (by rw [s1, e5]) (by rw [hland, hal2 _ (fun e => hne e.symm)]) (fun y o l hy => ?_)
      · rintro (e | e | e)
        · exact h.sl.sk.out e
        · exact (h.out E.b (.inr (.inr (.inr ⟨E, by simp, .inl rfl⟩)))).2.1 e.symm
        · exact (h.out E.n (.inr (.inr (.inr ⟨E, by simp, .inr rfl⟩)))).2.1 e.symm
      · rintro j (e | e | e)
        · exact h.sl.base j e
        · rw [e]; exact (h.out E.b (.inr (.inr (.inr ⟨E, by simp, .inl rfl⟩)))).2.2
        · rw [e]; exact (h.out E.n (.inr (.inr (.inr ⟨E, by simp, .inr rfl⟩)))).2.2
      · obtain ⟨t1, t2⟩ := e8 _ _ _ _ hy
        obtain ⟨t3, t4⟩ := s6 _ _ _ _ t1
        exact ⟨t3, (t4 (.inl hne)).trans t2⟩
    · have hj' : epB ge bl bp [E] j := by
        rcases hj with hj | hj | hj | ⟨e, he, hj⟩
        · exact .inl hj
        · exact .inr (.inl hj)
        · exact .inr (.inr (.inl hj))
        · rw [List.mem_singleton.1 he] at hj
          exact .inr (.inr (.inr ⟨E, by simp, hj⟩))
      obtain ⟨a1, a2⟩ := h.out j hj'
      exact ⟨fun e => (hsub j e).elim a1 (fun e => by have := hepw.lt hj'; omega), a2⟩
    · have h5 := alloc_count hal
      have h6 : countF p2 = countF p1 := by unfold countF; rw [s3]
      omega
    · rw [List.mem_singleton.1 he]
      exact ⟨hne, by show (landAt p2 E.r).there = true; rw [hland, hg7.there]; exact hth⟩
    · rw [hland] at hj
      by_cases e : j = E.r
      · exact .inr ⟨_, List.mem_singleton.2 rfl, e⟩
      · rw [hal2 j e] at hj
        rcases h.oth j hj with h9 | ⟨x, hx, h9⟩
        · exact .inl h9
        · rw [List.mem_singleton.1 hx] at h9
          exact absurd h9 e
    · rw [hland]
      by_cases e : i = E.r
      · rw [e, hg7.gen]; exact h.gen _
      · rw [hal2 i e]; exact h.gen _
  · have := idle_count hid
    omega
theorem LsW.adv {E : Era} (h : LsW w0 g gl ge bl bp now [E] A m q w) (hnow : now ≤ 1000) (hq : q ≤ 1000) :
    Calls Tryz.prog 20 #[.pointer (some ⟨ge, 0, none⟩)] w fun e w' => e = .returned (.tuple #[.int .i64 ((now + 1 : Nat) : Int), .int .i64 0]) ∧ ∃ F : Era, (F.k = now + 1 ∧ F.m = 0 ∧ F.c = 0) ∧ LsW w0 g gl ge bl bp (now + 1) [E, F] A m (q + 1) w' := by
  obtain ⟨S, p, L, N, h⟩ := h
  have ok := h.sl.sk.ok
  cases hmf : makeF p with
  | none =>
    exfalso
    have hall := makeF_none hmf
    have o0 := h.oth 0 (hall 0 (by decide))
    have o1 := h.oth 1 (hall 1 (by decide))
    have o2 := h.oth 2 (hall 2 (by decide))
    simp at o0 o1 o2
    omega
  | some r =>
    have he : makeR p = (r, 0, makeAt p r) := by unfold makeR; rw [hmf]
    obtain ⟨a1, a2, _, a4, a5, a6, a7, a8, a9⟩ := make_pcs ok he
    have ok' : PoolOk (makeAt p r) := by have := make_ok2 ok; rw [he] at this; exact this
    generalize makeAt p r = p' at *
    have hrL : r ≠ L.r := fun e => by have := h.sl.st.there; rw [← e, a2] at this; cases this
    obtain ⟨hne, hth⟩ := h.er E (by simp)
    have hrE : r ≠ E.r := fun e => by rw [← e, a2] at hth; cases hth
    have hSlt := h.sl.sk.pool.lt
    have hgl := h.sl.sk.blk.lt
    have := Advance_any h.ep h.sl.sk.pool ok (fun i _ => Nat.le_trans (h.gen i) (by omega)) he (fun j hj => (h.out j hj).1) (by simp) (by omega)
    refine this.mono ?_
    rintro e w' ⟨he, b, n, hE', hP', hb, hn, hch⟩
    have hgr := h.sl.gr.size
    refine ⟨he, ⟨now + 1, b, r, n, 0, 0⟩, ⟨rfl, rfl, rfl⟩, S, p', L, N, ?_, h.ca, h.fz, hE', fun j hj => ?_, ?_, by rw [a4]; exact h.size, fun e he => ?_, fun j hj => ?_, fun i => ?_, ?_⟩
    · refine h.sl.other hP' ok' hch ?_ ?_ (fun j hj => .inl hj) a4 (a8 _ (fun e => hrL e.symm)) (fun y o l hy => (a9 y _ o l hy).2)
      · rintro (e | e | e)
        · exact h.sl.sk.out e
        · exact (h.out ge (.inl rfl)).2.1 e.symm
        · exact (h.out bl (.inr (.inl rfl))).2.1 e.symm
      · rintro j (e | e | e)
        · exact h.sl.base j e
        · rw [e]; exact (h.out ge (.inl rfl)).2.2
        · rw [e]; exact (h.out bl (.inr (.inl rfl))).2.2
    · have key : epB ge bl bp [E] j ∨ j = b ∨ j = n := by
        rcases hj with hj | hj | hj | ⟨e, he, hj⟩
        · exact .inl (.inl hj)
        · exact .inl (.inr (.inl hj))
        · exact .inl (.inr (.inr (.inl hj)))
        · rcases List.mem_cons.1 he with he | he
          · exact .inl (.inr (.inr (.inr ⟨E, by simp, he ▸ hj⟩)))
          · rw [List.mem_singleton.1 he] at hj
            exact .inr hj
      rcases key with hj | hj | hj
      · exact h.out j hj
      · exact ⟨fun e => by have := hSlt _ e; omega, by omega, by omega⟩
      · exact ⟨fun e => by have := hSlt _ e; omega, by omega, by omega⟩
    · have h6 : countF p' = countF p := by unfold countF; rw [a6]
      rw [h6]; exact h.cnt
    · rcases List.mem_cons.1 he with he | he
      · rw [he]
        exact ⟨hne, by rw [a8 _ (fun e => hrE e.symm)]; exact hth⟩
      · rw [List.mem_singleton.1 he]
        exact ⟨hrL, by show (landAt p' r).there = true; rw [a7]⟩
    · by_cases e : j = r
      · exact .inr ⟨⟨now + 1, b, r, n, 0, 0⟩, by simp, e⟩
      · rw [a8 j e] at hj
        rcases h.oth j hj with h9 | ⟨x, hx, h9⟩
        · exact .inl h9
        · exact .inr ⟨x, by rw [List.mem_singleton.1 hx]; simp, h9⟩
    · by_cases e : i = r
      · rw [e, a7]; exact Nat.succ_le_succ (h.gen r)
      · rw [a8 i e]; exact Nat.le_succ_of_le (h.gen i)
    · simp
      exact fun e => hrE e.symm
theorem LsW.coll {E F : Era} (h : LsW w0 g gl ge bl bp now [E, F] A m q w) (hF : F.k = now) (hnow : now ≤ 1000) :
    Calls Tryz.prog 21 #[.pointer (some ⟨ge, 0, none⟩)] w fun e w' => e = .returned (.tuple #[.int .i64 1, .int .i64 0]) ∧ LsW w0 g gl ge bl bp now [F] A m q w' := by
  obtain ⟨S, p, L, N, h⟩ := h
  have ok := h.sl.sk.ok
  obtain ⟨hne, hth⟩ := h.er E (by simp)
  obtain ⟨hneF, hthF⟩ := h.er F (by simp)
  have hEF : E.r ≠ F.r := by have := h.rd; simpa using this
  have hi := there_lt ok hth
  obtain ⟨p', hfr, a1, a2, a3, a4, _, _, a7, a8⟩ := free_pcs ok hi hth
  have ok' : PoolOk p' := by have := free_ok ok (E.r : Int); rw [hfr] at this; exact this
  have := Collect_any h.ep hF h.sl.sk.pool ok (fun j hj => (h.out j hj).1) hfr (by omega)
  refine this.mono ?_
  rintro e w' ⟨he, hE', hP', hch⟩
  refine ⟨he, S, p', L, N, ?_, h.ca, h.fz, hE', fun j hj => ?_, ?_, by rw [a1]; exact h.size, fun e he => ?_, fun j hj => ?_, fun i => ?_, List.pairwise_singleton _ _⟩
  · refine h.sl.other hP' ok' hch ?_ ?_ (fun j hj => .inl hj) a1 (a4 _ (fun e => hne e.symm)) (fun y o l hy => a8 y _ o l hy (fun e => hne e.symm))
    · rintro (e | e)
      · exact h.sl.sk.out e
      · exact (h.out bl (.inr (.inl rfl))).2.1 e.symm
    · rintro j (e | e)
      · exact h.sl.base j e
      · rw [e]; exact (h.out bl (.inr (.inl rfl))).2.2
  · refine h.out j ?_
    rcases hj with hj | hj | hj | ⟨e, he, hj⟩
    · exact .inl hj
    · exact .inr (.inl hj)
    · exact .inr (.inr (.inl hj))
    · exact .inr (.inr (.inr ⟨e, List.mem_cons_of_mem _ he, hj⟩))
  · refine Nat.le_trans h.cnt (filter_le _ _ (by rw [ok.tk, ok'.tk, a2]) (fun i hb => ?_))
    rw [a7] at hb
    split at hb
    · cases hb
    · exact hb
  · rw [List.mem_singleton.1 he]
    exact ⟨hneF, by rw [a4 _ (fun e => hEF e.symm)]; exact hthF⟩
  · by_cases e : j = E.r
    · rw [e, a3] at hj; cases hj
    · rw [a4 j e] at hj
      rcases h.oth j hj with h9 | ⟨x, hx, h9⟩
      · exact .inl h9
      · rcases List.mem_cons.1 hx with rfl | hx
        · exact absurd h9 e
        · exact .inr ⟨x, hx, h9⟩
  · by_cases e : i = E.r
    · rw [e, a3]; exact h.gen _
    · rw [a4 i e]; exact h.gen _
end
end Go.Proofs.YtpaogoehgkoaeaaGreatDoor
