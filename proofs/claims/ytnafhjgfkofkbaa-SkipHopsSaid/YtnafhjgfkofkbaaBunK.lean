/- Layer 11 (skip): two lists in one pool, as a law holds them. -/
import Derived.Test.YtnafhjgfkofkbaaBunJ
/- Layer 11 (skip): two lists in one pool, and the reference's beside them. -/
namespace Go.Proofs.Ytnafhjgfkofkbaa
set_option linter.unusedVariables false
set_option linter.unusedSimpArgs false
open Go.RowKit Ikey Varint
theorem SkSt.keep {p p' : PoolF} {r gen : Nat} {hd : Nat → Nat × Nat} {N : List Nd} (h : SkSt p r gen hd N) (hs : p'.size = p.size) (hl : landAt p' r = landAt p r) (hp : ∀ y o l, Pc p y r o l → Pc p' y r o l ∧ loadF p' y = loadF p y) : SkSt p' r gen hd N :=
  ⟨h.hr, by rw [hl]; exact h.there, by rw [hs]; exact h.sz, h.heads, fun x hx => ⟨(h.node x hx).1, (hp _ _ _ (h.node x hx).2).1⟩, fun a x b e => by
    rw [(hp _ _ _ (h.node x (by rw [e]; simp)).2).2]
    exact h.ld a x b e, h.sorted, h.apart⟩
/-- a list, and the reference's -/
structure Lr where
  gl : Nat
  gm : Nat
  L : Ls
  N : List Nd
  C : List Ce
  ad : Option Addr
  cap : Nat
/-- its blocks, beside the pool's -/
def Lr.blks (a : Lr) (j : Nat) : Prop := j = a.gl ∨ j = a.gm ∨ ∃ x, a.ad = some x ∧ x.block = j
def Lr.At (a : Lr) (w0 w : World) (X S : Nat → Prop) (g : Nat) (p : PoolF) : Prop := Pr2 w0 w X S g a.gl a.gm p a.L a.N a.C a.ad a.cap
structure Twin2 (w0 w : World) (S : Nat → Prop) (g : Nat) (p : PoolF) (a b : Lr) : Prop where
  one : a.At w0 w b.blks S g p
  two : b.At w0 w a.blks S g p
  ner : a.L.r ≠ b.L.r
theorem Twin2.swap {w0 w : World} {S : Nat → Prop} {g : Nat} {p : PoolF} {a b : Lr} (h : Twin2 w0 w S g p a b) : Twin2 w0 w S g p b a := ⟨h.two, h.one, fun e => h.ner e.symm⟩
theorem Twin2.more {w0 w w' : World} {S : Nat → Prop} {g : Nat} {p : PoolF} {a b : Lr} (h : Twin2 w0 w S g p a b) (k : Gr w w') : Twin2 w0 w' S g p a b := ⟨h.one.more k, h.two.more k, h.ner⟩
theorem Twin2.ins1 {w0 w : World} {S : Nat → Prop} {g : Nat} {p : PoolF} {a b : Lr} (h : Twin2 w0 w S g p a b) (k : List UInt8) (s d : Int) (v : List UInt8) (t : Int) (hv : v.length ≤ 9223372036854775807) (hi : 1 ≤ countF p) (hN : a.N.length ≤ 1000) :
    Calls Try.prog 12 #[.pointer (some ⟨a.gl, 0, none⟩), celV k s d v, .int .i64 t] w fun e w' => e = .returned (.int .i64 ((insF (cellsN a.N) a.L.fz k s d v t).1 : Int)) ∧ Chg (Tt w0 fun _ => False) w w' ∧
      ∃ p' S' L' N', Twin2 w0 w' S' g p' { a with L := L', N := N' } b ∧ cellsN N' = (insF (cellsN a.N) a.L.fz k s d v t).2 ∧ L'.fz = a.L.fz ∧ L'.r = a.L.r ∧ Kp a.L.r p p' ∧ countF p ≤ countF p' + 1 := by
  have h1 := h.one
  have h2 := h.two
  refine (Insert_sl h1.sl k s d v t hv hi hN).mono ?_
  rintro e w' ⟨he, p', S', L', N', s1, s2, s3, s4, s5, s6, s7, s8, s9⟩
  have hch : Chg (Tt w0 fun _ => False) w w' := ⟨s9.chg.os, s9.chg.tape, s9.chg.output, s9.chg.size, fun j hj hn => s9.chg.block j hj (fun hs => hn (by
    rcases hs with hs | rfl
    · exact ⟨h1.sl.base j hs, fun hx => hx⟩
    · exact ⟨h1.sl.bl, fun hx => hx⟩))⟩
  have out : ∀ j, j < w.heap.size → ¬ S j → ¬ S' j := fun j hj hn e => (s9.sub j e).elim hn (fun e => by omega)
  have hgm : ¬ (S a.gm ∨ a.gm = a.gl) := fun e => e.elim h1.ns h1.nl
  obtain ⟨bl1, bl2, bl3, _⟩ := h1.keep b.gl (.inl rfl)
  obtain ⟨bm1, bm2, bm3, _⟩ := h1.keep b.gm (.inr (.inl rfl))
  have hba : ∀ x, b.ad = some x → x.block < w.heap.size ∧ ¬ S x.block ∧ x.block ≠ a.gl := fun x hx => by
    obtain ⟨k1, k2, k3, _⟩ := h1.keep x.block (.inr (.inr ⟨x, hx, rfl⟩))
    exact ⟨k1, k2, k3⟩
  refine ⟨he, hch, p', S', L', N', ⟨⟨s1, ⟨by rw [s5]; exact s9.chg.blk h1.rl.blk hgm, s9.chg.owns h1.rl.own (fun x hx e => e.elim (h1.nad x hx).1 (h1.nad x hx).2), h1.rl.base, h1.rl.ne⟩, out _ h1.rl.blk.lt h1.ns, h1.nl, fun x hx => ⟨out _ (h1.rl.own.lt x hx).2 (h1.nad x hx).1, (h1.nad x hx).2⟩, fun j hj => ?_⟩, ⟨?_, ?_, out _ bm1 bm2, h2.nl, fun x hx => ⟨out _ (hba x hx).1 (hba x hx).2.1, (h2.nad x hx).2⟩, fun j hj => ?_⟩, by show L'.r ≠ b.L.r; rw [s6]; exact h.ner⟩, s2, s5, s6, s7, s8⟩
  · obtain ⟨k1, k2, k3⟩ := h1.keep j hj
    exact ⟨Nat.lt_of_lt_of_le k1 s9.chg.size, out _ k1 k2, k3⟩
  · refine ⟨⟨s1.sk.pool, s1.sk.ok, s9.chg.blk h2.sl.sk.blk (fun e => e.elim bl2 bl3), out _ bl1 bl2⟩, h2.sl.st.keep s7.size (s7.land _ (fun e => h.ner e.symm)) (fun y o l hy => s7.pcs y _ o l (fun e => h.ner e.symm) hy), h2.sl.full, h2.sl.cnt, h2.sl.wt, h2.sl.fd, s1.gr, s1.base, h2.sl.bl⟩
  · exact ⟨s9.chg.blk h2.rl.blk (fun e => e.elim bm2 bm3), s9.chg.owns h2.rl.own (fun x hx e => e.elim (hba x hx).2.1 (hba x hx).2.2), h2.rl.base, h2.rl.ne⟩
  · obtain ⟨k1, k2, k3⟩ := h2.keep j hj
    exact ⟨Nat.lt_of_lt_of_le k1 s9.chg.size, out _ k1 k2, k3⟩
theorem Twin2.ins2 {w0 w : World} {S : Nat → Prop} {g : Nat} {p : PoolF} {a b : Lr} (h : Twin2 w0 w S g p a b) (k : List UInt8) (s d : Int) (v : List UInt8) (t : Int) (hv : v.length ≤ 9223372036854775807) (hC : a.C.length ≤ 1000) :
    Calls Try.prog 13 #[.pointer (some ⟨a.gm, 0, none⟩), celV k s d v, .int .i64 t] w fun e w' => e = .returned (.int .i64 ((insF a.C a.L.fz k s d v t).1 : Int)) ∧ Chg (Tt w0 fun _ => False) w w' ∧
      ∃ ad' cap', Twin2 w0 w' S g p { a with C := (insF a.C a.L.fz k s d v t).2, ad := ad', cap := cap' } b := by
  have h1 := h.one
  have h2 := h.two
  refine (rInsert_any w w0.heap.size a.gm a.C a.L.fz a.ad a.cap h1.rl h1.sl.gr.size (by omega) k s d v t hv).mono ?_
  rintro e w' ⟨he, ad', cap', s1, s2, s3⟩
  have hsz := h1.rl.blk.lt
  have had : ∀ x, ad' = some x → ¬ S x.block ∧ x.block ≠ a.gl ∧ x.block < w'.heap.size ∧ ¬ b.blks x.block := fun x hx => by
    rcases s3 x hx with e | e
    · exact ⟨(h1.nad x e).1, (h1.nad x e).2, (s1.own.lt x hx).2, fun hb => (h1.keep _ hb).2.2.2.2 x e rfl⟩
    · exact ⟨fun hS => by have := h1.sl.sk.pool.lt _ hS; omega, fun e2 => by have := h1.sl.sk.blk.lt; omega, (s1.own.lt x hx).2, fun hb => by have := (h1.keep _ hb).1; omega⟩
  refine ⟨he, ⟨s2.os, s2.tape, s2.output, s2.size, fun j hj hn => s2.block j hj (fun e => hn ⟨by have := h1.rl.base; omega, fun hx => hx⟩)⟩, ad', cap', ⟨⟨h1.sl.chg s2 (fun j hj e => h1.ns (by rw [← e]; exact hj)) (fun e => h1.nl e.symm) (fun j e => by rw [e]; exact h1.rl.base), s1, h1.ns, h1.nl, fun x hx => ⟨(had x hx).1, (had x hx).2.1⟩, fun j hj => ?_⟩, ?_, h.ner⟩⟩
  · obtain ⟨k1, k2, k3, k4, k5⟩ := h1.keep j hj
    exact ⟨Nat.lt_of_lt_of_le k1 s2.size, k2, k3, k4, fun x hx e => (had x hx).2.2.2 (by rw [e]; exact hj)⟩
  · have bm := (h1.keep b.gm (.inr (.inl rfl))).2.2.2.1
    have bl := (h1.keep b.gl (.inl rfl)).2.2.2.1
    have h3 := h2.chg (T := fun j => j = a.gm) s2 (fun j hj e => h1.ns (by rw [← e]; exact hj)) bl bm (fun x hx e => (h1.keep x.block (.inr (.inr ⟨x, hx, rfl⟩))).2.2.2.1 e) (fun j e => by rw [e]; exact h1.rl.base)
    refine ⟨h3.sl, h3.rl, h3.ns, h3.nl, h3.nad, fun j hj => ?_⟩
    rcases hj with rfl | rfl | ⟨x, hx, rfl⟩
    · exact h3.keep _ (.inl rfl)
    · exact h3.keep _ (.inr (.inl rfl))
    · obtain ⟨a1, a2, a3, a4⟩ := had x hx
      exact ⟨a3, a1, fun e => a4 (.inl e), fun e => a4 (.inr (.inl e)), fun y hy e => a4 (.inr (.inr ⟨y, hy, e⟩))⟩
end Go.Proofs.Ytnafhjgfkofkbaa
/- Layer 11 (skip): a list is freed, frozen; what one tells that is freed. -/
namespace Go.Proofs.Ytnafhjgfkofkbaa
set_option linter.unusedVariables false
set_option linter.unusedSimpArgs false
open Go.RowKit Ikey Varint
set_option maxRecDepth 100000 in
set_option maxHeartbeats 1000000 in
theorem Free_live (w : World) (S : Nat → Prop) (g gl : Nat) (p p' : PoolF) (L : Ls) (h : Sk w S g gl p L) (hfd : L.fd = false) (he : freeF p (L.r : Int) = (0, p')) :
    Calls Try.prog 20 #[.pointer (some ⟨gl, 0, none⟩)] w fun e w' => e = .returned (.int .i64 0) ∧ Sk w' S g gl p' { L with fd := true } ∧ Chg (fun j => S j ∨ j = gl) w w' := by
  have hset : (lstV g L).set 30 (.bool true) = lstV g { L with fd := true } := by
    unfold lstV
    rw [List.set_append_right _ _ (by simp), List.set_append_right _ _ (by rw [rowV_len]; simp)]
    simp [rowV_len]
  obtain ⟨h1, h2⟩ := h.setCell 30 (.bool true) hset
  have fz := h.blk.frozen 30
  obtain ⟨c0, c1, _⟩ := lst_heads h1.blk
  obtain ⟨_, _, _, c30⟩ := lst_tail h.blk
  rw [hfd] at c30
  have ok' := free_ok h.ok (L.r : Int)
  have HF := Lib.hid (Free_any _ S g p (L.r : Int) (h1.pool.gr (Gr.drew _)) h1.ok)
  rw [he] at HF ok'
  have H1 := Lib.hid h1; have H2 := Lib.hid h2
  clear h1 h2 h hset he
  go_enter Try.func20, Try.ntmps20
  go_wp2
  generalize hW : w.setCell _ _ = W at *
  go_still_tail 8, (by kernel_rfl)
  have d0 := (Gr.drew W).cell c0
  have d1 := (Gr.drew W).cell c1
  change wpList _ _ _ _ _ W.drew
  go_wp2_with (first
    | (go_at_call 57; go_must (refine HF.out.mono ?_); rintro e w2 ⟨rfl, m2⟩)
    | fail)
  go_ret
  refine ⟨rfl, ⟨m2.pool, ok', m2.chg.blk (H1.out.blk.gr (Gr.drew W)) H1.out.out, H1.out.out⟩, ?_⟩
  exact ((H2.out.trans (Gr.drew W).chg (S' := fun j => j = gl) (fun j e => .inl e)).mono (fun j e => .inr e)).trans m2.chg (fun j e => .inl (.inl e))
theorem Free_dead (w : World) (g gl : Nat) (L : Ls) (hb : Blk w gl 80 (lstV g L)) (hfd : L.fd = true) :
    Calls Try.prog 20 #[.pointer (some ⟨gl, 0, none⟩)] w fun e w' => e = .returned (.int .i64 12) ∧ w = w' := by
  obtain ⟨_, _, _, c30⟩ := lst_tail hb
  rw [hfd] at c30
  clear hb
  go_enter Try.func20, Try.ntmps20
  go_wp2
  go_ret
  exact ⟨rfl, rfl⟩
theorem Free_nil (w : World) : Calls Try.prog 20 #[.pointer none] w fun e w' => e = .returned (.int .i64 1) ∧ w = w' := by
  go_enter Try.func20, Try.ntmps20
  go_wp2
  go_ret
  exact ⟨rfl, rfl⟩
theorem Freeze_any (w : World) (S : Nat → Prop) (g gl : Nat) (p : PoolF) (L : Ls) (h : Sk w S g gl p L) :
    Calls Try.prog 23 #[.pointer (some ⟨gl, 0, none⟩)] w fun e w' => e = .returned (.tuple #[]) ∧ Sk w' S g gl p { L with fz := true } ∧ Chg (fun j => j = gl) w w' := by
  have hset : (lstV g L).set 29 (.bool true) = lstV g { L with fz := true } := by
    unfold lstV
    rw [List.set_append_right _ _ (by simp), List.set_append_right _ _ (by rw [rowV_len]; simp)]
    simp [rowV_len]
  obtain ⟨h1, h2⟩ := h.setCell 29 (.bool true) hset
  have fz := h.blk.frozen 29
  obtain ⟨_, _, c29, _⟩ := lst_tail h.blk
  have H1 := Lib.hid h1; have H2 := Lib.hid h2
  clear h1 h2 h hset
  go_enter Try.func23, Try.ntmps23
  go_wp2
  refine bodyPost_end (v := .tuple #[]) (by simp [results, Try.results23, go_sem]) rfl ⟨rfl, H1.out, H2.out⟩
theorem Freeze_nil (w : World) : Calls Try.prog 23 #[.pointer none] w fun e w' => e = .returned (.tuple #[]) ∧ w = w' := by
  go_enter Try.func23, Try.ntmps23
  go_wp2
  refine bodyPost_end (v := .tuple #[]) (by simp [results, Try.results23, go_sem]) rfl ⟨rfl, rfl⟩
end Go.Proofs.Ytnafhjgfkofkbaa
namespace Go.Proofs.Ytnafhjgfkofkbaa
set_option linter.unusedVariables false
set_option linter.unusedSimpArgs false
open Go.RowKit Ikey Varint
theorem filter_both {α : Type} (f : α → Bool) : ∀ l : List α, (l.filter f).length + (l.filter fun x => !f x).length = l.length
  | [] => rfl
  | x :: l => by
    have := filter_both f l
    cases h : f x <;> simp [h] <;> omega
/-- how many are taken: as many as are in a list that has just the taken ones -/
theorem count_list {p : PoolF} (hp : PoolOk p) {l : List Nat} (hn : l.Nodup) (hm : ∀ s, s < p.bytes.length → (s ∈ l ↔ p.taken.getD s false = true)) (hl : ∀ s ∈ l, s < p.bytes.length) : countF p + l.length = p.bytes.length := by
  have e1 : p.taken = (List.range p.taken.length).map fun s => p.taken.getD s false := by
    apply List.ext_getElem?
    intro i
    by_cases hi : i < p.taken.length
    · simp [hi]
    · rw [List.getElem?_eq_none (by omega), List.getElem?_eq_none (by simp; omega)]
  have e2 : countF p = ((List.range p.taken.length).filter fun s => !(p.taken.getD s false)).length := by
    unfold countF
    conv => lhs; rw [e1]
    rw [List.filter_map, List.length_map]
    rfl
  have e3 := filter_both (fun s => p.taken.getD s false) (List.range p.taken.length)
  have e4 : ((List.range p.taken.length).filter fun s => p.taken.getD s false).length = l.length := by
    apply List.Perm.length_eq
    refine (List.perm_ext_iff_of_nodup (List.nodup_range.filter _) hn).2 fun s => ?_
    rw [List.mem_filter, List.mem_range, hp.tk]
    constructor
    · rintro ⟨h1, h2⟩; exact (hm s h1).2 h2
    · intro h; exact ⟨hl s h, (hm s (hl s h)).1 h⟩
  rw [List.length_range, hp.tk] at e3
  rw [hp.tk] at e4 e2
  rw [e2]
  omega
theorem count_all {p : PoolF} (hp : PoolOk p) (h : ∀ j, (landAt p j).slabs = []) : countF p = p.bytes.length := by
  have := count_list hp (l := []) List.nodup_nil (fun s hs => ⟨fun e => by simp at e, fun e => by
    obtain ⟨j, hj, hm⟩ := (hp.has s hs).1 e
    rw [h j] at hm
    exact hm⟩) (fun s hs => by simp at hs)
  simpa using this
/-- the two hold these cells -/
def TwoI (w0 : World) (g gl gm gk gn : Nat) (C1 D1 C2 D2 : List Ce) (n : Nat) (w : World) : Prop :=
  ∃ S p a b, Twin2 w0 w S g p a b ∧ (a.gl = gl ∧ a.gm = gm ∧ b.gl = gk ∧ b.gm = gn) ∧ (cellsN a.N = C1 ∧ a.C = D1 ∧ cellsN b.N = C2 ∧ b.C = D2) ∧ (a.L.fz = false ∧ b.L.fz = false) ∧ n ≤ countF p ∧ p.bytes.length = 300 ∧ ∀ j, j ≠ a.L.r → j ≠ b.L.r → (landAt p j).slabs = []
section
variable {w0 w w' : World} {g gl gm gk gn n : Nat} {C1 D1 C2 D2 : List Ce}
theorem TwoI.swap (h : TwoI w0 g gl gm gk gn C1 D1 C2 D2 n w) : TwoI w0 g gk gn gl gm C2 D2 C1 D1 n w := by
  obtain ⟨S, p, a, b, h1, ⟨h2, h3, h4, h5⟩, ⟨h6, h7, h8, h9⟩, ⟨h10, h11⟩, h12, h13, h14⟩ := h
  exact ⟨S, p, b, a, h1.swap, ⟨h4, h5, h2, h3⟩, ⟨h8, h9, h6, h7⟩, ⟨h11, h10⟩, h12, h13, fun j x y => h14 j y x⟩
theorem TwoI.more (h : TwoI w0 g gl gm gk gn C1 D1 C2 D2 n w) (k : Gr w w') : TwoI w0 g gl gm gk gn C1 D1 C2 D2 n w' := by
  obtain ⟨S, p, a, b, h1, h2⟩ := h
  exact ⟨S, p, a, b, h1.more k, h2⟩
theorem TwoI.gr (h : TwoI w0 g gl gm gk gn C1 D1 C2 D2 n w) : Gr w0 w := by
  obtain ⟨S, p, a, b, h1, h2⟩ := h
  exact h1.one.sl.gr
theorem TwoI.ins1 (h : TwoI w0 g gl gm gk gn C1 D1 C2 D2 (n + 1) w) (k : List UInt8) (s d : Int) (v : List UInt8) (t : Int) (hv : v.length ≤ 9223372036854775807) (hC : C1.length ≤ 1000) :
    Calls Try.prog 12 #[.pointer (some ⟨gl, 0, none⟩), celV k s d v, .int .i64 t] w fun e w' => e = .returned (.int .i64 ((insF C1 false k s d v t).1 : Int)) ∧ Chg (Tt w0 fun _ => False) w w' ∧ TwoI w0 g gl gm gk gn (insF C1 false k s d v t).2 D1 C2 D2 n w' := by
  obtain ⟨S, p, a, b, h1, ⟨rfl, rfl, rfl, rfl⟩, ⟨rfl, rfl, rfl, rfl⟩, ⟨h10, h11⟩, h12, h13, h14⟩ := h
  have := h1.ins1 k s d v t hv (by omega) (by simpa [cellsN] using hC)
  rw [h10] at this
  refine this.mono ?_
  rintro e w' ⟨he, hc, p', S', L', N', s1, s2, s3, s4, s5, s6⟩
  refine ⟨he, hc, S', p', _, b, s1, ⟨rfl, rfl, rfl, rfl⟩, ⟨s2, rfl, rfl, rfl⟩, ⟨s3, h11⟩, by omega, by rw [s5.len]; exact h13, fun j x y => ?_⟩
  have x : j ≠ a.L.r := by rw [← s4]; exact x
  rw [s5.land j x]
  exact h14 j x y
theorem TwoI.ins2 (h : TwoI w0 g gl gm gk gn C1 D1 C2 D2 n w) (k : List UInt8) (s d : Int) (v : List UInt8) (t : Int) (hv : v.length ≤ 9223372036854775807) (hC : D1.length ≤ 1000) :
    Calls Try.prog 13 #[.pointer (some ⟨gm, 0, none⟩), celV k s d v, .int .i64 t] w fun e w' => e = .returned (.int .i64 ((insF D1 false k s d v t).1 : Int)) ∧ Chg (Tt w0 fun _ => False) w w' ∧ TwoI w0 g gl gm gk gn C1 (insF D1 false k s d v t).2 C2 D2 n w' := by
  obtain ⟨S, p, a, b, h1, ⟨rfl, rfl, rfl, rfl⟩, ⟨rfl, rfl, rfl, rfl⟩, ⟨h10, h11⟩, h12, h13, h14⟩ := h
  have := h1.ins2 k s d v t hv hC
  rw [h10] at this
  refine this.mono ?_
  rintro e w' ⟨he, hc, ad', cap', s1⟩
  exact ⟨he, hc, S, p, _, b, s1, ⟨rfl, rfl, rfl, rfl⟩, ⟨rfl, rfl, rfl, rfl⟩, ⟨h10, h11⟩, h12, h13, h14⟩
end
/-- a list is freed -/
theorem Sl.free {w0 w : World} {S : Nat → Prop} {g gl : Nat} {p : PoolF} {L : Ls} {N : List Nd} (h : Sl w0 w S g gl p L N) :
    ∃ p', (Calls Try.prog 20 #[.pointer (some ⟨gl, 0, none⟩)] w fun e w' => e = .returned (.int .i64 0) ∧ Sk w' S g gl p' { L with fd := true } ∧ Chg (fun j => S j ∨ j = gl) w w') ∧
      p'.size = p.size ∧ p'.bytes.length = p.bytes.length ∧ landAt p' L.r = ⟨false, (landAt p L.r).gen, [], 0⟩ ∧ (∀ j, j ≠ L.r → landAt p' j = landAt p j) ∧ ∀ x j o l, Pc p x j o l → j ≠ L.r → Pc p' x j o l ∧ loadF p' x = loadF p x := by
  obtain ⟨p', h1, h2, h3, h4, h5, _, _, _, h9⟩ := free_pcs h.sk.ok h.st.hr h.st.there
  exact ⟨p', Free_live w S g gl p p' L h.sk h.fd h1, h2, h3, h4, h5, h9⟩
/-- the other one tells all that it did -/
theorem Twin2.free1 {w0 w : World} {S : Nat → Prop} {g : Nat} {p : PoolF} {a b : Lr} (h : Twin2 w0 w S g p a b) :
    ∃ p', (Calls Try.prog 20 #[.pointer (some ⟨a.gl, 0, none⟩)] w fun e w' => e = .returned (.int .i64 0) ∧ b.At w0 w' (fun _ => False) S g p' ∧ Gr w0 w') ∧
      p'.bytes.length = p.bytes.length ∧ (landAt p' a.L.r).slabs = [] ∧ ∀ j, j ≠ a.L.r → landAt p' j = landAt p j := by
  obtain ⟨p', hc, h2, h3, h4, h5, h6⟩ := h.one.sl.free
  have h1 := h.one
  have hb := h.two
  refine ⟨p', hc.mono ?_, h3, by rw [h4], h5⟩
  rintro e w' ⟨he, hs, hch⟩
  obtain ⟨_, bl2, bl3, _⟩ := h1.keep b.gl (.inl rfl)
  obtain ⟨_, bm2, bm3, _⟩ := h1.keep b.gm (.inr (.inl rfl))
  have hba : ∀ x, b.ad = some x → ¬ (S x.block ∨ x.block = a.gl) := fun x hx => by
    obtain ⟨k1, k2, k3, _⟩ := h1.keep x.block (.inr (.inr ⟨x, hx, rfl⟩))
    exact fun e => e.elim k2 k3
  have hgr : Gr w0 w' := hch.gr h1.sl.gr (fun j hj => hj.elim (h1.sl.base j) (fun e => by rw [e]; exact h1.sl.bl))
  exact ⟨he, ⟨⟨⟨hs.pool, hs.ok, hch.blk hb.sl.sk.blk (fun e => e.elim bl2 bl3), bl2⟩, hb.sl.st.keep h2 (h5 _ (fun e => h.ner e.symm)) (fun y o l hy => h6 y _ o l hy (fun e => h.ner e.symm)), hb.sl.full, hb.sl.cnt, hb.sl.wt, hb.sl.fd, hgr, hb.sl.base, hb.sl.bl⟩,
    ⟨hch.blk hb.rl.blk (fun e => e.elim bm2 bm3), hch.owns hb.rl.own hba, hb.rl.base, hb.rl.ne⟩, hb.ns, hb.nl, hb.nad, fun j hj => hj.elim⟩, hgr⟩
end Go.Proofs.Ytnafhjgfkofkbaa
