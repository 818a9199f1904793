/- The statements through the layers: the list and the epochs are made; a cursor on its way, and what is got. -/
import Derived.Test.YtpaogoehgkoaeaaGreatDoorQTopListsM
import Derived.Test.YtpaogoehgkoaeaaGreatDoorQTabTold
namespace Go.Proofs.YtpaogoehgkoaeaaGreatDoor
set_option linter.unusedVariables false
set_option linter.unusedSimpArgs false
open Go.RowKit Go.Maps Ikey Varint
open Go.Op (bytesLess)
def fits (key : List UInt8) (s : Int) (c : Ce) : Bool := decide (c.key = key) && decide ((c.seq : Int) ≤ s)
theorem find_none {α : Type} {p : α → Bool} {l : List α} (h : ∀ x ∈ l, p x = false) : l.find? p = none := by
  rw [List.find?_eq_none]
  intro x hx e
  rw [h x hx] at e
  cases e
theorem mem_take {α : Type} {p : α → Bool} : ∀ {l : List α}, ∀ x ∈ l.takeWhile p, p x = true
  | [], x, h => by simp at h
  | y :: l, x, h => by
    rw [List.takeWhile_cons] at h
    cases e : p y with
    | true =>
      rw [e, if_pos rfl] at h
      rcases List.mem_cons.1 h with rfl | h
      · exact e
      · exact mem_take x h
    | false => rw [e, if_neg (by decide)] at h; simp at h
theorem find_getC {C : List Ce} (hs : C.Pairwise fun a b => vless a.vr b.vr = true) (hq : ∀ c ∈ C, c.seq ≤ 72057594037927935 ∧ c.kind ≤ 1) (key : List UInt8) (s : Int) : C.find? (fits key s) = getC C key s := by
  have hsp : C = C.takeWhile (aheadC ⟨key, clampF s, 1⟩) ++ C.dropWhile (aheadC ⟨key, clampF s, 1⟩) := (List.takeWhile_append_dropWhile).symm
  have hA : ∀ c ∈ C.takeWhile (aheadC ⟨key, clampF s, 1⟩), vless c.vr ⟨key, clampF s, 1⟩ = true := fun c hc => mem_take c hc
  have hD : ∀ x D, C.dropWhile (aheadC ⟨key, clampF s, 1⟩) = x :: D → vless x.vr ⟨key, clampF s, 1⟩ = false := fun x D e => by
    have := List.head?_dropWhile_not (aheadC ⟨key, clampF s, 1⟩) C
    rw [e] at this
    simpa [aheadC] using this
  unfold getC
  generalize C.takeWhile (aheadC ⟨key, clampF s, 1⟩) = A at *
  generalize C.dropWhile (aheadC ⟨key, clampF s, 1⟩) = D at *
  by_cases h0 : 0 ≤ s
  · have hA2 : ∀ c ∈ A, fits key s c = false := fun c hc => by
      have h1 := (vless_iff _ _).1 (hA c hc)
      have h2 := hq c (by rw [hsp]; exact List.mem_append_left _ hc)
      unfold fits
      rw [Bool.and_eq_false_iff]
      rcases h1 with h1 | ⟨h1, h3⟩
      · exact .inl (decide_eq_false fun e => by
          have h4 : bytesLess c.key key = true := h1
          rw [e, bl_irr] at h4; cases h4)
      · refine .inr (decide_eq_false fun e => ?_)
        have h3 : clampF s < (c.seq : Int) ∨ ((c.seq : Int) = clampF s ∧ (1 : Int) < (c.kind : Int)) := h3
        unfold clampF at h3
        omega
    rw [hsp, List.find?_append, find_none hA2, Option.none_or]
    cases D with
    | nil => rfl
    | cons x D =>
      have h1 := hD x D rfl
      simp only
      by_cases hk : x.key = key
      · rw [if_pos ⟨h0, hk⟩, List.find?_cons]
        have : fits key s x = true := by
          unfold fits
          rw [Bool.and_eq_true, decide_eq_true_eq, decide_eq_true_eq]
          refine ⟨hk, ?_⟩
          have h2 : ¬ clampF s < (x.seq : Int) := fun e => by
            have : vless x.vr ⟨key, clampF s, 1⟩ = true := (vless_iff _ _).2 (.inr ⟨hk, .inl e⟩)
            rw [h1] at this; cases this
          unfold clampF at h2
          omega
        rw [this]
      · rw [if_neg (fun e => hk e.2)]
        refine find_none fun y hy => ?_
        have hkx : bytesLess key x.key = true := by
          cases hb : bytesLess key x.key with
          | true => rfl
          | false =>
            exfalso
            refine hk (bl_total ?_ hb)
            cases hb2 : bytesLess x.key key with
            | false => rfl
            | true =>
              have : vless x.vr ⟨key, clampF s, 1⟩ = true := (vless_iff _ _).2 (.inl hb2)
              rw [h1] at this; cases this
        unfold fits
        rw [Bool.and_eq_false_iff]
        refine .inl (decide_eq_false fun e => ?_)
        rcases List.mem_cons.1 hy with rfl | hy
        · exact hk e
        · rw [hsp] at hs
          have h3 := (vless_iff _ _).1 ((pair_at hs).2 y hy)
          have h4 : bytesLess key y.key = true := by
            rcases h3 with h3 | ⟨h3, _⟩
            · exact bl_trans hkx h3
            · rw [← show x.key = y.key from h3]; exact hkx
          rw [e, bl_irr] at h4
          cases h4
  · rw [find_none (fun c _ => by unfold fits; rw [Bool.and_eq_false_iff]; exact .inr (decide_eq_false (by omega)))]
    cases D with
    | nil => rfl
    | cons x D => simp only; rw [if_neg (fun e => h0 e.1)]
/-- so many steps were gone forth -/
def Fw (N : List Nd) (j : Nat) (side : Int) (q : Nat × Nat) : Prop := (j = 0 ∧ side = 0) ∨ ∃ (a b : List Nd) (x : Nd), N = a ++ x :: b ∧ j = a.length + 1 ∧ side = 1 ∧ q = (x.off, x.size)
theorem Fw.step {N a b : List Nd} {x : Nd} (hN : N = a ++ x :: b) : Fw N (a.length + 1) 1 (x.off, x.size) := .inr ⟨a, b, x, hN, rfl, rfl, rfl⟩
theorem nd_split {N : List Nd} {j : Nat} (h : j < N.length) : ∃ a x b, N = a ++ x :: b ∧ a.length = j :=
  ⟨N.take j, N[j], N.drop (j + 1), by rw [← List.drop_eq_getElem_cons h, List.take_append_drop], by rw [List.length_take]; omega⟩
theorem nd_get {N a b : List Nd} {x : Nd} (h : N = a ++ x :: b) : (cellsN N)[a.length]? = some x.c := by rw [h]; simp [cellsN]
section
variable {w0 w w' : World} {g gl gk : Nat} {A : List Ci}
/-- an empty list in a new pool -/
theorem lists_skip {w1 : World} (k : Gr w0 w1) {S : Nat → Prop} (P : Pl w0 w1 S g (newF 4096 200)) :
    Calls Tryz.prog 16 #[.pointer (some ⟨g, 0, none⟩)] w1 fun e w' => ∃ gl, e = .returned (.tuple #[.pointer (some ⟨gl, 0, none⟩), .int .i64 0]) ∧ Sl w0 w' S g gl (poolP 4096 200) (newL 0) [] := by
  refine (New_list w1 S g (newF 4096 200) (poolP 4096 200) 0 P.pool P.ok (fun i _ => by rw [landAt_new]; decide) (by decide) (poolP_make 4096 200)).mono ?_
  rintro e w' ⟨gl, he, hmv, hb, hz, hn⟩
  have hok : PoolOk (poolP 4096 200) := by
    have := make_ok2 P.ok
    rw [poolP_make] at this
    exact this
  exact ⟨gl, he, ⟨hmv.pool, hok, hb, hn⟩, ⟨by decide, by rw [landAt_poolP]; rfl, by decide, fun _ _ => rfl, fun x hx => by simp at hx, fun a x b e => by simp at e, List.Pairwise.nil, List.Pairwise.nil⟩, fun x hx => by simp at hx, rfl, rfl, rfl, hmv.chg.gr k P.base, P.base, Nat.le_trans k.size hz⟩
def poolQ : PoolF := makeAt (poolP 4096 200) 1
theorem poolQ_make : makeR (poolP 4096 200) = (1, 0, poolQ) := by
  have h : makeF (poolP 4096 200) = some 1 := makeF_is (by decide) (by rw [landAt_poolP]; rfl) (fun j hj => by
    obtain rfl : j = 0 := by omega
    rw [landAt_poolP]; rfl)
  unfold makeR
  rw [h]
  rfl
theorem lists_epoch {S : Nat → Prop} (h : Sl w0 w S g gl (poolP 4096 200) (newL 0) []) :
    Calls Tryz.prog 17 #[.pointer (some ⟨g, 0, none⟩)] w fun e w' => ∃ ge, e = .returned (.tuple #[.pointer (some ⟨ge, 0, none⟩), .int .i64 0]) ∧ ∃ bl bp, ∃ E : Era, (E.k = 1 ∧ E.m = 0 ∧ E.c = 0) ∧ LsW w0 g gl ge bl bp 1 [E] [] 200 1 w' := by
  have ok := h.sk.ok
  obtain ⟨a1, a2, _, a4, a5, a6, a7, a8, a9⟩ := make_pcs ok poolQ_make
  have ok' : PoolOk poolQ := by have := make_ok2 ok; rw [poolQ_make] at this; exact this
  refine (ENew_any h.sk.pool ok (fun i _ => ?_) poolQ_make).mono ?_
  · rw [landAt_poolP]
    split <;> decide
  · rintro e w' ⟨ge, he, bl, bp, b, n, hE, hP, hn, hch⟩
    have hSlt := h.sk.pool.lt
    have hgl := h.sk.blk.lt
    have hgr := h.gr.size
    refine ⟨ge, he, bl, bp, ⟨1, b, 1, n, 0, 0⟩, ⟨rfl, rfl, rfl⟩, S, poolQ, newL 0, [], h.other hP ok' hch h.sk.out h.base (fun j hj => .inl hj) a4 (a8 _ (by decide)) (fun y o l hy => (a9 y _ o l hy).2), rfl, rfl, hE, fun j hj => ?_, ?_, by rw [a4]; rfl, fun e he => ?_, fun j hj => ?_, fun i => ?_, List.pairwise_singleton _ _⟩
    · have h1 := hn j hj
      exact ⟨fun e => by have := hSlt _ e; omega, by omega, by omega⟩
    · have h6 : countF poolQ = countF (poolP 4096 200) := by unfold countF; rw [a6]
      rw [h6, countF_poolP]
      exact Nat.le_refl _
    · rw [List.mem_singleton.1 he]
      exact ⟨(show (1 : Nat) ≠ 0 by decide), by show (landAt poolQ 1).there = true; rw [a7]⟩
    · by_cases e : j = 1
      · exact .inr ⟨_, List.mem_singleton.2 rfl, e⟩
      · rw [a8 j e, landAt_poolP] at hj
        by_cases e0 : 0 = j
        · exact .inl e0.symm
        · rw [if_neg e0] at hj; cases hj
    · by_cases e : i = 1
      · rw [e, a7, landAt_poolP]; decide
      · rw [a8 i e, landAt_poolP]
        split <;> decide
/-- a cursor on its way through a list -/
def WayL (w0 : World) (g gl gk : Nat) (A : List Ci) (j : Nat) (w : World) : Prop :=
  ∃ S p L N side q, Sl w0 w S g gl p L N ∧ ci (cellsN N) = A ∧ Blk w gk 151 (curV gl side q) ∧ Fw N j side q ∧ ¬ S gk ∧ gk ≠ gl ∧ w0.heap.size ≤ gk
theorem WayL.more {j : Nat} (h : WayL w0 g gl gk A j w) (k : Gr w w') : WayL w0 g gl gk A j w' := by
  obtain ⟨S, p, L, N, side, q, h1, h2, h3, h4, h5⟩ := h
  exact ⟨S, p, L, N, side, q, h1.more k, h2, h3.gr k, h4, h5⟩
theorem WayL.gr {j : Nat} (h : WayL w0 g gl gk A j w) : Gr w0 w := by
  obtain ⟨S, p, L, N, side, q, h1, _⟩ := h
  exact h1.gr
theorem LsW.cur {ge bl bp now m q : Nat} {K : List Era} (h : LsW w0 g gl ge bl bp now K A m q w) :
    Calls Tryz.prog 23 #[.pointer (some ⟨gl, 0, none⟩)] w fun e w' => e = .returned (.pointer (some ⟨w.heap.size, 0, none⟩)) ∧ WayL w0 g gl w.heap.size A 0 w' ∧ Gr w w' := by
  obtain ⟨S, p, L, N, h⟩ := h
  refine (Cursor_any gl w).mono ?_
  rintro e w' ⟨he, hb, hg⟩
  exact ⟨he, ⟨S, p, L, N, _, _, h.sl.more hg, h.ca, hb, .inl ⟨rfl, rfl⟩, fun e => Nat.lt_irrefl _ (h.sl.sk.pool.lt _ e), fun e => by have := h.sl.sk.blk.lt; omega, h.sl.gr.size⟩, hg⟩
theorem LsW.count {ge bl bp now m q : Nat} {K : List Era} (h : LsW w0 g gl ge bl bp now K A m q w) :
    Calls Tryz.prog 22 #[.pointer (some ⟨gl, 0, none⟩)] w fun e w' => e = .returned (.int .i64 (A.length : Int)) ∧ w = w' := by
  obtain ⟨S, p, L, N, h⟩ := h
  have := sCount_any w g gl L h.sl.sk.blk
  rw [h.sl.fd, if_neg (by decide), h.sl.cnt] at this
  rw [← h.ca, ci_len]
  simpa [cellsN] using this
theorem WayL.next {j : Nat} (h : WayL w0 g gl gk A j w) (hj : j < A.length) :
    Calls Tryz.prog 24 #[.pointer (some ⟨gk, 0, none⟩)] w fun e w' => e = .returned (.int .i64 0) ∧ WayL w0 g gl gk A (j + 1) w' ∧ Chg (fun i => i = gk) w w' := by
  obtain ⟨S, p, L, N, side, q, h1, h2, h7, h8, b2, b3, b4⟩ := h
  have hl : N.length = A.length := by rw [← h2, ci_len]; simp [cellsN]
  obtain ⟨a, x, b, hN, ha⟩ := nd_split (by omega : j < N.length)
  have fin : ∀ e w', e = Ending.returned (.int .i64 0) ∧ Blk w' gk 151 (curV gl 1 (x.off, x.size)) ∧ Chg (fun i => i = gk) w w' → e = Ending.returned (.int .i64 0) ∧ WayL w0 g gl gk A (j + 1) w' ∧ Chg (fun i => i = gk) w w' := by
    rintro e w' ⟨he, hb, k⟩
    refine ⟨he, ⟨S, p, L, N, 1, (x.off, x.size), h1.chg k (fun i hi e => b2 (by rw [← e]; exact hi)) (fun e => b3 e.symm) (fun i e => by rw [e]; exact b4), h2, hb, ?_, b2, b3, b4⟩, k⟩
    rw [← ha]
    exact Fw.step hN
  rcases h8 with ⟨rfl, rfl⟩ | ⟨a', b', y, e1, e2, rfl, rfl⟩
  · obtain rfl : a = [] := List.eq_nil_of_length_eq_zero ha
    have := Next_front h1 h7
    rw [first_head h1.pos, show N.head? = some x by rw [hN]; rfl] at this
    exact this.mono fin
  · have e4 : a' ++ [y] = a ∧ b' = x :: b := by
      have e3 : (a' ++ [y]) ++ b' = a ++ x :: b := by rw [← hN, e1]; simp
      exact List.append_inj e3 (by simp; omega)
    have := Next_at h1 e1 h7
    rw [first_head (fun z hz => h1.pos z (by rw [e1]; simp [hz])), show b'.head? = some x by rw [e4.2]; rfl] at this
    exact this.mono fin
theorem WayL.last {j : Nat} (h : WayL w0 g gl gk A j w) (hj : j = A.length) (h0 : 0 < j) :
    Calls Tryz.prog 24 #[.pointer (some ⟨gk, 0, none⟩)] w fun e w' => e = .returned (.int .i64 15) ∧ Chg (fun i => i = gk) w w' := by
  obtain ⟨S, p, L, N, side, q, h1, h2, h7, h8, b2, b3, b4⟩ := h
  have hl : N.length = A.length := by rw [← h2, ci_len]; simp [cellsN]
  rcases h8 with ⟨rfl, rfl⟩ | ⟨a', b', y, e1, e2, rfl, rfl⟩
  · omega
  · have hb : b' = [] := by
      have := congrArg List.length e1
      rw [List.length_append, List.length_cons] at this
      exact List.eq_nil_of_length_eq_zero (by omega)
    have := Next_at h1 e1 h7
    rw [hb] at this
    exact this.mono fun e w' ⟨t1, _, t3⟩ => ⟨t1, t3⟩
theorem WayL.cell {j : Nat} (h : WayL w0 g gl gk A (j + 1) w) (hj : j < A.length) :
    Calls Tryz.prog 25 #[.pointer (some ⟨gk, 0, none⟩)] w fun e w' => e = .returned (.tuple #[.agg #[.string (str A[j].key), .int .i64 A[j].seq, .int .i64 A[j].kind, .string (str A[j].val)], .int .i64 0]) ∧ Gr w w' := by
  obtain ⟨S, p, L, N, side, q, h1, h2, h7, h8, _⟩ := h
  rcases h8 with ⟨e, _⟩ | ⟨a, b, x, hN, e2, rfl, rfl⟩
  · omega
  · have hx : A[j] = x.c.i := by
      have h10 := nd_get hN
      have h11 : A[j]? = some x.c.i := by
        rw [← h2]
        unfold ci
        rw [List.getElem?_map, show j = a.length by omega, h10]
        rfl
      exact (List.getElem?_eq_some_iff.1 h11).2
    rw [hx]
    exact Cell_at h1 hN h7
theorem get_same {C : List Ce} (hs : C.Pairwise fun a b => vless a.vr b.vr = true) (hq : ∀ c ∈ C, c.seq ≤ 72057594037927935 ∧ c.kind ≤ 1) (key : List UInt8) (s : Int) :
    ceO (getC C key s) = .tuple #[cellOf (rgetF (ci C) key s).1, .int .i64 (rgetF (ci C) key s).2] := by
  rw [← find_getC hs hq]
  unfold rgetF ci
  rw [List.find?_map]
  have hf : (hitF key s ∘ Ce.i) = fits key s := by
    funext c
    simp [hitF, fits, Ce.i, Function.comp]
    by_cases h : c.key = key <;> by_cases h2 : (c.seq : Int) ≤ s <;> simp [h, h2]
  rw [hf]
  cases C.find? (fits key s) with
  | none => rfl
  | some c => rfl
theorem WayL.get {j : Nat} (h : WayL w0 g gl gk A j w) (hq : ∀ c ∈ A, okT c = true) (hs : A.Pairwise AscI) (key : List UInt8) (s : Int) :
    Calls Tryz.prog 26 #[.pointer (some ⟨gl, 0, none⟩), .string (str key), .int .i64 s] w fun e w' => e = .returned (.tuple #[cellOf (rgetF A key s).1, .int .i64 (rgetF A key s).2]) ∧ Gr w w' := by
  obtain ⟨S, p, L, N, side, q, h1, h2, _⟩ := h
  have := Get_sl h1 key s
  rw [get_same ?_ ?_, h2] at this
  · exact this
  · have hs2 := hs
    rw [← h2] at hs2
    unfold ci at hs2
    rw [List.pairwise_map] at hs2
    exact hs2
  · intro c hc
    have h3 := hq c.i (by rw [← h2]; exact List.mem_map_of_mem hc)
    unfold okT at h3
    rw [Bool.and_eq_true] at h3
    obtain ⟨_, _, k1, k2, k3⟩ := okV_of h3.1
    have k2 : (c.seq : Int) ≤ 72057594037927935 := k2
    have k3 : (c.kind : Int) = 0 ∨ (c.kind : Int) = 1 := k3
    exact ⟨by omega, by omega⟩
end
end Go.Proofs.YtpaogoehgkoaeaaGreatDoor
