/- Layer 12 (epoch): Retire walked. -/
import Derived.Test.YtpaogoehgkoaeaaGreatDoorQEpNote
import Derived.Test.YtpaogoehgkoaeaaGreatDoorQBunS2
import Derived.Test.YtpaogoehgkoaeaaGreatDoorQBunS1
namespace Go.Proofs.YtpaogoehgkoaeaaGreatDoor
set_option linter.unusedVariables false
set_option linter.unusedSimpArgs false
open Go.RowKit Go.Maps
def zn : List Value := [.int .i64 0, .int .i64 0, .int .i64 0, .int .i64 0, .int .i64 0]
theorem Blk.five {w : World} {g : Nat} {t : TypeId} {a b c d e : Value} (h : Blk w g t [a, b, c, d, e]) : (w.cell? ⟨g, 0, none⟩ = some a ∧ w.cell? ⟨g, 1, none⟩ = some b ∧ w.cell? ⟨g, 2, none⟩ = some c ∧ w.cell? ⟨g, 3, none⟩ = some d ∧ w.cell? ⟨g, 4, none⟩ = some e) ∧ (w.frozen? ⟨g, 0, none⟩ = false ∧ w.frozen? ⟨g, 1, none⟩ = false ∧ w.frozen? ⟨g, 2, none⟩ = false ∧ w.frozen? ⟨g, 3, none⟩ = false ∧ w.frozen? ⟨g, 4, none⟩ = false) :=
  ⟨⟨h.cell rfl, h.cell rfl, h.cell rfl, h.cell rfl, h.cell rfl⟩, h.frozen _, h.frozen _, h.frozen _, h.frozen _, h.frozen _⟩
theorem Chg.bytes {S : Nat → Prop} {w w' : World} (h : Chg S w w') {ad : Option Addr} {l : List UInt8} (hb : Bytes w ad l) (hn : ∀ x, ad = some x → ¬ S x.block) : Bytes w' ad l := (h.row hb.row hn).bytes
/-- while bytes are retired -/
structure RtI (w : World) (S : Nat → Prop) (g ge bl bp now : Nat) (E : Era) (hb nb : Nat) (y : Hd) (ad : Option Addr) (b : List UInt8) (p : PoolF) (wr : World) (S2 : Nat → Prop) : Prop where
  ep : Ep wr g ge bl bp now [E]
  pool : PoolAt wr S2 g p
  han : Blk wr hb 58 (hc y)
  note : Blk wr nb 60 zn
  byt : Bytes wr ad b
  sub : ∀ j, S2 j → S j ∨ w.heap.size ≤ j
  chg : Chg S w wr
  nh : ¬ S2 hb
  nn : ¬ S2 nb
  gh : w.heap.size ≤ hb
  gn : w.heap.size ≤ nb
  epn : ∀ j, epB ge bl bp [E] j → ¬ S2 j
  nad : ∀ x, ad = some x → ¬ S2 x.block
section
variable {w wr w' : World} {S S2 : Nat → Prop} {g ge bl bp now hb nb : Nat} {E : Era} {y : Hd} {ad : Option Addr} {b : List UInt8} {p p' : PoolF}
theorem RtI.gr (h : RtI w S g ge bl bp now E hb nb y ad b p wr S2) (k : Gr wr w') : RtI w S g ge bl bp now E hb nb y ad b p w' S2 :=
  ⟨h.ep.gr k, h.pool.gr k, h.han.gr k, h.note.gr k, h.byt.gr k, h.sub, h.chg.trans k.chg (fun j hj => .inl hj), h.nh, h.nn, h.gh, h.gn, h.epn, h.nad⟩
theorem RtI.moved (h : RtI w S g ge bl bp now E hb nb y ad b p wr S2) (m : Moved S2 g p' wr w' S2) : RtI w S g ge bl bp now E hb nb y ad b p' w' S2 :=
  ⟨h.ep.keep (fun j hj => m.chg.block j (h.ep.lt hj) (h.epn j hj)), m.pool, m.chg.blk h.han h.nh, m.chg.blk h.note h.nn, m.chg.bytes h.byt h.nad, h.sub, h.chg.trans m.chg (fun j hj => h.sub j hj), h.nh, h.nn, h.gh, h.gn, h.epn, h.nad⟩
end
set_option maxRecDepth 100000 in
set_option maxHeartbeats 8000000 in
theorem Retire_any {w : World} {S : Nat → Prop} {g ge bl bp now : Nat} {E : Era} {p p1 p2 : PoolF} {yr yg yo yl : Int} (h : Ep w g ge bl bp now [E]) (hk : E.k = now) (hp : PoolAt w S g p) (ok : PoolOk p) (ok1 : PoolOk p1) (hS : ∀ j, epB ge bl bp [E] j → ¬ S j)
    (ad : Option Addr) (cap : Nat) (b : List UInt8) (n : Nat) (hn : b.length = n) (hb : Bytes w ad b) (hnad : ∀ x, ad = some x → x.block < w.heap.size ∧ ¬ S x.block)
    (hal : allocF p (E.r : Int) (n : Int) 1 = (⟨yr, yg, yo, yl⟩, 0, p1)) (hst : storeF p1 ⟨yr, yg, yo, yl⟩ 0 b = (0, p2)) (hy : OkHd ⟨yr, yg, yo, yl⟩) (hm : E.m ≤ 1000) (hc9 : E.c ≤ 1000000) (hn1 : n ≤ 1000) (hnow : now ≤ 1000000) :
    Calls Tryz.prog 19 #[.pointer (some ⟨ge, 0, none⟩), .slice ad n cap] w fun e w' => e = .returned (.tuple #[.agg #[.int .i64 (now : Int), .int .i64 yr, .int .i64 yg, .int .i64 yo, .int .i64 yl], .int .i64 0]) ∧
      ∃ S', Ep w' g ge bl bp now [{ E with m := E.m + 1, c := E.c + n }] ∧ PoolAt w' S' g p2 ∧ (∀ j, S' j → S j ∨ w.heap.size ≤ j) ∧ Chg (fun j => S j ∨ j = E.b ∨ j = E.n) w w' := by
  have ga := Gr.alloc w (.cells #[.int .i64 0, .int .i64 0, .int .i64 0, .int .i64 0, .int .i64 0] 60)
  have HN := Lib.hid (enone_any (h.gr ga).eb)
  have HE := Lib.hid (h.gr ga)
  have HNB := Lib.hid (Blk.new w 60 #[.int .i64 0, .int .i64 0, .int .i64 0, .int .i64 0, .int .i64 0])
  have HGA := Lib.hid ga
  have HLk := Lib.hid (show ∀ wr, Ep wr g ge bl bp now [E] → (Instr.lookup 125 (.map (some bl)) (.int .i64 (now : Int)) false).run Tryz.prog wr = .ok (.pointer (some ⟨E.b, 0, none⟩)) wr from fun wr hE => by
    obtain ⟨v, ps, hrun, hv⟩ := hE.live.lookup (int_keyed Tryz.underlying3) Tryz.underlying125 (z := .pointer none) (by kernel_rfl) (zd := .lit (.bool false)) (zp := []) rfl (keyOf_int_mk Tryz.underlying3 (wf_i64 (x := (now : Int)) (by omega) (by omega)))
    rw [show (now : Int) = (E.k : Int) by rw [hk], live_at1] at hv
    rw [hrun, Rp_inv hv])
  have HP := Lib.hid hp
  have HS := Lib.hid hS
  have HB := Lib.hid hb
  have HNad := Lib.hid hnad
  have HAL := Lib.hid hal
  have HST := Lib.hid hst
  have HY := Lib.hid hy
  have HSz := Lib.hid (fun j (hj : epB ge bl bp [E] j) => h.lt hj)
  have HOK := Lib.hid ok
  have HOK1 := Lib.hid ok1
  have HBL := Lib.hid hn
  have HKn := Lib.hid hk
  clear h hp hS hb hnad hal hst hy ga ok ok1 hn hk
  go_enter Tryz.func19, Tryz.ntmps19
  go_wp2_with (first
    | (go_at_call 69; go_must (refine HN.out.mono ?_); rintro e w' ⟨rfl, rfl⟩)
    | fail)
  generalize (w.alloc (.cells #[.int .i64 0, .int .i64 0, .int .i64 0, .int .i64 0, .int .i64 0] 60)) = wa at *
  refine region_any_gr _ [Is ?r0, Is ?r1, Is ?r2, Is (.map (some bl)), Is ?r4, Is ?r5, Is ?r6, Is (.int .i64 (now : Int)), Is (.pointer (some ⟨E.b, 0, none⟩)), Is (.pointer (some ⟨E.b, 0, none⟩))] (by kernel_rfl) (by kernel_rfl) (by kernel_rfl) rfl rfl ⟨Is.stable _, Is.stable _, Is.stable _, Is.stable _, Is.stable _, Is.stable _, Is.stable _, Is.stable _, Is.stable _, Is.stable _, trivial⟩ ⟨?s0, ?s1, ?s2, ?s3, ?s4, ?s5, ?s6, ?s7, ?s8, ?s9, trivial⟩ ?fin
  case' s0 | s1 | s2 | s3 | s4 | s5 | s6 | s7 | s8 | s9 =>
    intro ρ wr hρ hg hK
    simp [readsOf, slotsOf, Op.operands, Call.operands, tmpOf, List.filterMap_cons, List.filterMap_nil, KnownAll, knownOf, srcOf, depsOf, dstOf, Region.binds, nth, Is] at hK
    obtain ⟨hc, hf, hgl⟩ := hρ
    try simp only [wantedBy, dstOf, boolOf, nth, List.getD_cons_zero, List.getD_cons_succ, List.getElem?_cons_zero, List.getElem?_cons_succ, Option.bind_some, if_true, hK, BEq.rfl]
    try go_simp
    first | exact rfl | (rw [if_pos (by omega)]; exact is_here rfl) | (rw [dif_pos (by omega)]; exact is_here rfl) | exact congrArg (Value.int _) (IntWalk.i64_in _ ⟨by omega, by omega⟩) | skip
  case s3 =>
    obtain ⟨_, _, c2, _, _⟩ := eb_cells (HE.out.gr hg).eb
    go_simp
    exact rfl
  case s7 =>
    obtain ⟨_, c1, _, _, _⟩ := eb_cells (HE.out.gr hg).eb
    go_simp
    exact rfl
  case s8 =>
    rw [HLk.out wr (HE.out.gr hg)]
    exact ⟨Gr.refl _, rfl⟩
  case fin =>
    intro w1 val hg hH
    simp only [Holds, Is, Nat.zero_add, Nat.reduceAdd] at hH
    obtain ⟨h0, h1, h2, h3, h4, h5, h6, h7, h8, h9, _⟩ := hH
    simp only [List.take_succ_cons, List.take_zero, List.drop_succ_cons, List.drop_zero, putAll, h0, h1, h2, h3, h4, h5, h6, h7, h8, h9, Nat.zero_add, Nat.reduceAdd]
    have HE1 := Lib.hid (HE.out.gr hg)
    have HG1 := Lib.hid (HGA.out.trans hg)
    have HNB1 := Lib.hid (HNB.out.gr hg)
    clear HE HGA HNB hg HN h0 h1 h2 h3 h4 h5 h6 h7 h8 h9
    generalize w1 = wv at *
    go_simp
    go_wp2
    have HPW := Lib.hid (HP.out.gr (HG1.out.trans (Gr.drew wv)))
    have hSlt : ∀ j, S j → j < wv.drew.heap.size := HPW.out.lt
    have HSlt := Lib.hid hSlt
    have HPL0 := Lib.hid (Pl.none HPW.out HOK.out)
    obtain ⟨W0, hW0⟩ : ∃ W0 : World, W0 = { wv.drew with heap := #[] } := ⟨_, rfl⟩
    rw [← hW0] at HPL0
    have hw0 : W0.heap.size ≤ wv.drew.heap.size := by rw [hW0]; exact Nat.zero_le _
    clear hW0 hSlt
    have HAl := Lib.hid (fun wr (h : Pl W0 wr S g p) => Alloc_pl h HAL.out)
    simp only at HAl
    have HI0 := Lib.hid (AInv.start (p' := p1) (cs := hc ⟨yr, yg, yo, yl⟩) HPL0.out)
    refine region_ghost (Le := ALe W0 wv.drew S g p p1 (hc ⟨yr, yg, yo, yl⟩)) PreI ALe.refl ALe.trans AG.none PreI.start _ [IsG ?r0x1, IsG ?r1x1, IsG ?r2x1, IsG (.pointer (some ⟨g, 0, none⟩)), IsG ?r4x1, IsG ?r5x1, IsG ?r6x1, IsG (.int .i64 (E.r : Int)), IsG (.slice ad n cap), IsG (.int .i64 (n : Int)), DoneG (.tuple #[.agg #[.int .i64 yr, .int .i64 yg, .int .i64 yo, .int .i64 yl], .int .i64 0]), IsG (.tuple #[.agg #[.int .i64 yr, .int .i64 yg, .int .i64 yo, .int .i64 yl], .int .i64 0]), IsG (.agg #[.int .i64 yr, .int .i64 yg, .int .i64 yo, .int .i64 yl]), IsG (.int .i64 0), HasG, StG, IsG (.int .i64 0)] (by kernel_rfl) (by kernel_rfl) (by kernel_rfl) rfl rfl ⟨IsG.stable _, IsG.stable _, IsG.stable _, IsG.stable _, IsG.stable _, IsG.stable _, IsG.stable _, IsG.stable _, IsG.stable _, IsG.stable _, DoneG.stable _, IsG.stable _, IsG.stable _, IsG.stable _, HasG.stable, StG.stable, IsG.stable _, trivial⟩ ⟨?s0x1, ?s1x1, ?s2x1, ?s3x1, ?s4x1, ?s5x1, ?s6x1, ?s7x1, ?s8x1, ?s9x1, ?s10x1, ?s11x1, ?s12x1, ?s13x1, ?s14x1, ?s15x1, ?s16x1, trivial⟩ ?finx1
    case' s0x1 | s1x1 | s2x1 | s3x1 | s4x1 | s5x1 | s6x1 | s7x1 | s8x1 | s9x1 | s11x1 | s12x1 | s13x1 | s16x1 =>
      intro ρ wr gh hρ hg hK
      simp [readsOf, slotsOf, Op.operands, Call.operands, tmpOf, List.filterMap_cons, List.filterMap_nil, KnownAll, knownOf, srcOf, depsOf, dstOf, Region.binds, nthG, IsG, IsS] at hK
      obtain ⟨hc, hf, hgl⟩ := hρ
      try simp only [wantedBy, dstOf, boolOf, nthG, List.getD_cons_zero, List.getD_cons_succ, List.getElem?_cons_zero, List.getElem?_cons_succ, Option.bind_some, if_true, hK, BEq.rfl]
      try go_simp
      first | exact rfl | exact pureG ALe.refl rfl | (refine pureG ALe.refl ?_; go_simp; done) | (refine pureG ALe.refl ?_; rfl) | (rw [if_pos (by omega)]; exact pureG ALe.refl rfl) | (rw [dif_pos (by omega)]; exact pureG ALe.refl rfl) | exact pureG ALe.refl (congrArg (Value.int _) (IntWalk.i64_in _ ⟨by omega, by omega⟩)) | skip
    case' s10x1 | s14x1 | s15x1 =>
      intro ρ wr gh hρ hg hK
      simp [readsOf, slotsOf, Op.operands, Call.operands, tmpOf, List.filterMap_cons, List.filterMap_nil, KnownAll, knownOf, srcOf, depsOf, dstOf, Region.binds, nthG, IsG, IsS] at hK
      obtain ⟨hc, hf, hgl⟩ := hρ
      try simp only [wantedBy, dstOf, boolOf, nthG, List.getD_cons_zero, List.getD_cons_succ, List.getElem?_cons_zero, List.getElem?_cons_succ, Option.bind_some, if_true, hK, BEq.rfl]
    case s3x1 | s7x1 =>
      have HI := hg.1.2 HI0.out
      have hE := HE1.out.gr (Gr.drew wv)
      have z0 := HI.chg.cell (eb_cells hE.eb).1 (by rintro (e | e); exact HS.out _ (.inl rfl) e; have := hE.lt (.inl rfl); omega)
      have hEr := (hE.era E (by simp)).blk
      have z1 := HI.chg.cell (hEr.cell (i := 0) (v := .int .i64 (E.r : Int)) rfl) (by rintro (e | e); exact HS.out _ (.inr (.inr (.inr ⟨E, by simp, .inl rfl⟩))) e; have := hEr.lt; omega)
      first
        | (rw [z0]; exact pureG ALe.refl rfl)
        | (rw [z1]; exact pureG ALe.refl rfl)
    case s11x1 =>
      rw [hK.1]
      exact pureG ALe.refl rfl
    case s10x1 =>
      have HI := hg.1.2 HI0.out
      have hd : gh.done = false := (hg.2 10 (by kernel_rfl)).1 rfl
      have hP : Pl W0 wr S g p := by have := HI.pool; rw [if_neg (by rw [hd]; decide)] at this; exact this
      have HPh := Lib.hid hP; have HD := Lib.hid hd
      clear HI hP hd
      go_simp
      refine growG_enter ((HAl.out wr HPh.out).mono fun e w'' ⟨he, S', m, P'⟩ => ⟨_, { gh with done := true }, he, ⟨⟨⟨fun _ => rfl, fun _ h => h, fun h => h⟩, fun h => h.call HD.out HSlt.out m P'⟩, PreI.step (fun h => absurd rfl h) (fun _ h => h) (fun _ h => h)⟩, rfl, rfl⟩)
    case s14x1 =>
      have hb : gh.b = none := (hg.2 14 (by kernel_rfl)).2.1 rfl
      have HD := Lib.hid hb
      clear hb
      go_simp
      exact growG_value _ _ _ _ _ { gh with b := some wr.heap.size } ⟨⟨⟨fun h => h, fun b e => (by rw [HD.out] at e; cases e), fun h => h⟩, fun h => h.new HD.out⟩, PreI.step (fun _ h => h) (fun h => absurd rfl h) (fun _ h => h)⟩ ⟨_, rfl, rfl⟩
    case s15x1 =>
      obtain ⟨⟨b', eb, hb⟩, e64⟩ := hK
      have HI := hg.1.2 HI0.out
      have hst : gh.st = false := (hg.2 15 (by kernel_rfl)).2.2 rfl
      obtain ⟨hN, hB⟩ := HI.blk b' hb
      rw [if_neg (by show ¬ gh.st = true; rw [hst]; decide)] at hB
      obtain ⟨c0, c1, c2, c3, f0, f1, f2, f3⟩ := Blk.four (a := .int .i64 0) (b := .int .i64 0) (c := .int .i64 0) (d := .int .i64 0) hB
      have HIh := Lib.hid HI; have HBb := Lib.hid hb; have HBk := Lib.hid hB
      clear HI hb hst hB
      go_simp
      have kk := grown_set4b wr b' 0 (.int .i64 yr) (.int .i64 yg) (.int .i64 yo) (.int .i64 yl)
      have hB2 : Blk ((((wr.setCell ⟨b', 0, none⟩ (.int .i64 yr)).setCell ⟨b', 0 + 1, none⟩ (.int .i64 yg)).setCell ⟨b', 0 + 2, none⟩ (.int .i64 yo)).setCell ⟨b', 0 + 3, none⟩ (.int .i64 yl)) b' 58 (Go.Proofs.YtpaogoehgkoaeaaGreatDoor.hc ⟨yr, yg, yo, yl⟩) := (((HBk.out.set_ 0 _).set_ 1 _).set_ 2 _).set_ 3 _
      exact growG_skip { gh with st := true } ⟨⟨⟨fun h => h, fun _ h => h, fun _ => rfl⟩, fun h => h.store HSlt.out hw0 HBb.out kk hB2⟩, PreI.step (fun _ h => h) (fun _ h => h) (fun h => absurd rfl h)⟩ rfl
    case finx1 =>
      intro w1 g1 val hg hH
      simp only [HoldsG, IsG, IsS, Nat.zero_add, Nat.reduceAdd] at hH
      obtain ⟨h0, h1, h2, h3, h4, h5, h6, h7, h8, h9, h10, h11, h12, h13, h14, h15, h16, _⟩ := hH
      simp only [List.take_succ_cons, List.take_zero, List.drop_succ_cons, List.drop_zero, putAll, h0, h1, h2, h3, h4, h5, h6, h7, h8, h9, h11, h12, h13, h16, Nat.zero_add, Nat.reduceAdd]
      have HI := hg.2 HI0.out
      obtain ⟨e10, hd⟩ := h10
      obtain ⟨hq, e14, hbq⟩ := h14
      have hst : g1.st = true := h15
      simp only [e10, e14]
      have hpl := HI.pool
      rw [if_pos hd] at hpl
      obtain ⟨S', P', hS'⟩ := hpl
      obtain ⟨hNb, hBk⟩ := HI.blk hq hbq
      rw [if_pos (show (w1, g1).2.st = true from hst)] at hBk
      have hPA := P'.drop hBk
      have hRt : RtI w S g ge bl bp now E hq w.heap.size ⟨yr, yg, yo, yl⟩ ad b p1 w1 (fun j => S' j ∧ j ≠ hq) := by
        have hdr : wv.drew.heap.size = wv.heap.size := rfl
        have hgs := HG1.out.size
        have hno : ∀ j, j < wv.heap.size → ¬ S j → ¬ (S' j ∧ j ≠ hq) := fun j h1 h2 e => (hS' j e.1).elim h2 (fun e => by omega)
        have hE := HE1.out.gr (Gr.drew wv)
        have hnS : ¬ S w.heap.size := fun e => Nat.lt_irrefl _ (HP.out.lt _ e)
        have hnb := HNB1.out.lt
        refine ⟨hE.keep (fun j hj => HI.chg.block j (hE.lt hj) (by rintro (e | e); exact HS.out j hj e; have := hE.lt hj; omega)), hPA.pool, hBk, HI.chg.blk (HNB1.out.gr (Gr.drew wv)) (by rintro (e | e); exact hnS e; omega), HI.chg.bytes (HB.out.gr (HG1.out.trans (Gr.drew wv))) (fun x hx => by rintro (e | e); exact (HNad.out x hx).2 e; have := (HNad.out x hx).1; omega), fun j hj => (hS' j hj.1).imp id (fun e => by omega), ((HG1.out.trans (Gr.drew wv)).chg (S := S)).trans HI.chg (fun j hj => hj.imp id (fun e => by omega)), fun e => e.2 rfl, hno _ hnb hnS, by omega, Nat.le_refl _, fun j hj => hno j (by have := hE.lt hj; omega) (HS.out j hj), fun x hx => hno _ (by have := (HNad.out x hx).1; omega) (HNad.out x hx).2⟩
      generalize (fun j => S' j ∧ j ≠ hq) = S2 at hRt
      have HR := Lib.hid hRt
      clear hRt hPA hBk hNb hS' P' hst hd hbq HI hg e10 e14 h15 HI0 HAl HPL0 hw0 HSlt HPW HNB1 HG1 HE1
      clear h0 h1 h2 h3 h4 h5 h6 h7 h8 h9 h11 h12 h13 h16
      generalize w1 = wz at *
      go_simp
      go_wp2
      refine region_tail_gr 6 _ [Is ?r0x2, Is ?r1x2, Is ?r2x2, Is (.pointer (some ⟨g, 0, none⟩)), Is (.agg #[.int .i64 yr, .int .i64 yg, .int .i64 yo, .int .i64 yl]), Is (.slice ad n cap)] (by kernel_rfl) (by kernel_rfl) (by kernel_rfl) (by kernel_rfl) rfl rfl ⟨Is.stable _, Is.stable _, Is.stable _, Is.stable _, Is.stable _, Is.stable _, trivial⟩ ⟨?s0x2, ?s1x2, ?s2x2, ?s3x2, ?s4x2, ?s5x2, trivial⟩ ?finx2
      case' s0x2 | s1x2 | s2x2 | s3x2 | s4x2 | s5x2 =>
        intro ρ wr hρ hg hK
        simp [readsOf, slotsOf, Op.operands, Call.operands, tmpOf, List.filterMap_cons, List.filterMap_nil, KnownAll, knownOf, srcOf, depsOf, dstOf, Region.binds, nth, Is] at hK
        obtain ⟨hc, hf, hgl⟩ := hρ
        try simp only [wantedBy, dstOf, boolOf, nth, List.getD_cons_zero, List.getD_cons_succ, List.getElem?_cons_zero, List.getElem?_cons_succ, Option.bind_some, if_true, hK, BEq.rfl]
        try go_simp
        first | exact rfl | (rw [if_pos (by omega)]; exact is_here rfl) | (rw [dif_pos (by omega)]; exact is_here rfl) | exact congrArg (Value.int _) (IntWalk.i64_in _ ⟨by omega, by omega⟩) | skip
      case s3x2 =>
        obtain ⟨c0, _, _, _, _⟩ := eb_cells (HR.out.gr hg).ep.eb
        go_simp
        exact rfl
      case s4x2 =>
        obtain ⟨d0, d1, d2, d3, _⟩ := (HR.out.gr hg).han.four
        go_simp
        exact rfl
      case finx2 =>
        intro w1 val hg hH
        simp only [Holds, Is, Nat.zero_add, Nat.reduceAdd] at hH
        obtain ⟨h0, h1, h2, h3, h4, h5, _⟩ := hH
        simp only [List.take_succ_cons, List.take_zero, List.drop_succ_cons, List.drop_zero, putAll, h0, h1, h2, h3, h4, h5, Nat.zero_add, Nat.reduceAdd]
        have HR1 := Lib.hid (HR.out.gr hg)
        have hSt := Store_any w1 S2 g p1 ⟨yr, yg, yo, yl⟩ 0 ad n cap b HR1.out.pool HOK1.out HR1.out.byt HBL.out (by omega)
        rw [HST.out] at hSt
        unfold hdv at hSt
        have HSt := Lib.hid hSt
        clear hSt HR hg h0 h1 h2 h3 h4 h5
        go_simp
        go_wp2_with (first
          | (go_at_call 67; go_must (refine HSt.out.mono ?_); rintro e w5 ⟨rfl, m5⟩
             have HR5 := Lib.hid (HR1.out.moved m5)
             clear HR1 HSt m5)
          | fail)
        refine region_tail_gr 7 _ [Is ?r0x3, Is ?r1x3, Is ?r2x3, Is (.int .i64 (now : Int)), Is (.agg #[.int .i64 yr, .int .i64 yg, .int .i64 yo, .int .i64 yl]), Is (.agg #[.int .i64 (now : Int), .int .i64 yr, .int .i64 yg, .int .i64 yo, .int .i64 yl]), NewBlk w5.heap.size 60 zn] (by kernel_rfl) (by kernel_rfl) (by kernel_rfl) (by kernel_rfl) rfl rfl ⟨Is.stable _, Is.stable _, Is.stable _, Is.stable _, Is.stable _, Is.stable _, NewBlk.stable _ _ _, trivial⟩ ⟨?s0x3, ?s1x3, ?s2x3, ?s3x3, ?s4x3, ?s5x3, ?s6x3, trivial⟩ ?finx3
        case' s0x3 | s1x3 | s2x3 | s3x3 | s4x3 | s5x3 | s6x3 =>
          intro ρ wr hρ hg hK
          simp [readsOf, slotsOf, Op.operands, Call.operands, tmpOf, List.filterMap_cons, List.filterMap_nil, KnownAll, knownOf, srcOf, depsOf, dstOf, Region.binds, nth, Is] at hK
          obtain ⟨hc, hf, hgl⟩ := hρ
          try simp only [wantedBy, dstOf, boolOf, nth, List.getD_cons_zero, List.getD_cons_succ, List.getElem?_cons_zero, List.getElem?_cons_succ, Option.bind_some, if_true, hK, BEq.rfl]
          try go_simp
          first | exact rfl | (rw [if_pos (by omega)]; exact is_here rfl) | (rw [dif_pos (by omega)]; exact is_here rfl) | exact congrArg (Value.int _) (IntWalk.i64_in _ ⟨by omega, by omega⟩) | skip
        case s3x3 =>
          obtain ⟨_, c1, _, _, _⟩ := eb_cells (HR5.out.gr hg).ep.eb
          go_simp
          exact rfl
        case s4x3 =>
          obtain ⟨d0, d1, d2, d3, _⟩ := (HR5.out.gr hg).han.four
          go_simp
          exact rfl
        case s6x3 => exact ⟨Gr.alloc _ _, wr.heap.size, rfl, hg.size, Blk.new _ _ _⟩
        case finx3 =>
          intro w1 val hg hH
          simp only [Holds, Is, Nat.zero_add, Nat.reduceAdd] at hH
          obtain ⟨h0, h1, h2, h3, h4, h5, h6, _⟩ := hH
          simp only [List.take_succ_cons, List.take_zero, List.drop_succ_cons, List.drop_zero, putAll, h0, h1, h2, h3, h4, h5, Nat.zero_add, Nat.reduceAdd]
          obtain ⟨nb2, h6, hNb2, hB6⟩ := h6
          simp only [h6]
          have HG6 := Lib.hid hg
          have HB6 := Lib.hid hB6
          obtain ⟨⟨n0, n1, n2, n3, n4⟩, f0, f1, f2, f3, f4⟩ := Blk.five (a := .int .i64 0) (b := .int .i64 0) (c := .int .i64 0) (d := .int .i64 0) (e := .int .i64 0) hB6
          clear hg hB6 h0 h1 h2 h3 h4 h5 h6
          go_simp
          go_wp2
          have hB7 : Blk (((((w1.setCell ⟨nb2, 0, none⟩ (.int .i64 (now : Int))).setCell ⟨nb2, 1, none⟩ (.int .i64 yr)).setCell ⟨nb2, 2, none⟩ (.int .i64 yg)).setCell ⟨nb2, 3, none⟩ (.int .i64 yo)).setCell ⟨nb2, 4, none⟩ (.int .i64 yl)) nb2 60 (noteV now ⟨yr, yg, yo, yl⟩) := ((((HB6.out.set_ 0 (.int .i64 (now : Int))).set_ 1 (.int .i64 yr)).set_ 2 (.int .i64 yg)).set_ 3 (.int .i64 yo)).set_ 4 (.int .i64 yl)
          have kk : w1.grownBy (((((w1.setCell ⟨nb2, 0, none⟩ (.int .i64 (now : Int))).setCell ⟨nb2, 1, none⟩ (.int .i64 yr)).setCell ⟨nb2, 2, none⟩ (.int .i64 yg)).setCell ⟨nb2, 3, none⟩ (.int .i64 yo)).setCell ⟨nb2, 4, none⟩ (.int .i64 yl)) (some nb2) := grown_trans (grown_set4b w1 nb2 0 (.int .i64 (now : Int)) (.int .i64 yr) (.int .i64 yg) (.int .i64 yo)) (grown_set _ nb2 4 (.int .i64 yl))
          have G7 := Gr.of_far HG6.out kk hNb2
          generalize (((((w1.setCell ⟨nb2, 0, none⟩ (.int .i64 (now : Int))).setCell ⟨nb2, 1, none⟩ (.int .i64 yr)).setCell ⟨nb2, 2, none⟩ (.int .i64 yg)).setCell ⟨nb2, 3, none⟩ (.int .i64 yo)).setCell ⟨nb2, 4, none⟩ (.int .i64 yl)) = w7 at *
          have HR7 := Lib.hid (HR5.out.gr G7)
          have HB7 := Lib.hid hB7
          have hlt5 : w.heap.size < w5.heap.size := HR5.out.note.lt
          have HL5 := Lib.hid (fun j (hj : epB ge bl bp [E] j) => HR5.out.ep.lt hj)
          clear n0 n1 n2 n3 n4 f0 f1 f2 f3 f4 kk hB7 G7 HB6 HG6 HR5
          refine region_tail_gr 6 _ [Is ?r0x4, Is ?r1x4, Is ?r2x4, Is (.map (some E.n)), Is (.agg #[.int .i64 (now : Int), .int .i64 yr, .int .i64 yg, .int .i64 yo, .int .i64 yl]), Is (.agg #[])] (by kernel_rfl) (by kernel_rfl) (by kernel_rfl) (by kernel_rfl) rfl rfl ⟨Is.stable _, Is.stable _, Is.stable _, Is.stable _, Is.stable _, Is.stable _, trivial⟩ ⟨?s0x4, ?s1x4, ?s2x4, ?s3x4, ?s4x4, ?s5x4, trivial⟩ ?finx4
          case' s0x4 | s1x4 | s2x4 | s3x4 | s4x4 | s5x4 =>
            intro ρ wr hρ hg hK
            simp [readsOf, slotsOf, Op.operands, Call.operands, tmpOf, List.filterMap_cons, List.filterMap_nil, KnownAll, knownOf, srcOf, depsOf, dstOf, Region.binds, nth, Is] at hK
            obtain ⟨hc, hf, hgl⟩ := hρ
            try simp only [wantedBy, dstOf, boolOf, nth, List.getD_cons_zero, List.getD_cons_succ, List.getElem?_cons_zero, List.getElem?_cons_succ, Option.bind_some, if_true, hK, BEq.rfl]
            try go_simp
            first | exact rfl | (rw [if_pos (by omega)]; exact is_here rfl) | (rw [dif_pos (by omega)]; exact is_here rfl) | exact congrArg (Value.int _) (IntWalk.i64_in _ ⟨by omega, by omega⟩) | skip
          case s3x4 =>
            have z := ((HR7.out.gr hg).ep.era E (by simp)).blk.cell (i := 1) (v := .map (some E.n)) rfl
            go_simp
            exact rfl
          case s4x4 =>
            obtain ⟨⟨n0, n1, n2, n3, n4⟩, _⟩ := Blk.five (HB7.out.gr hg)
            go_simp
            exact rfl
          case finx4 =>
            intro w1 val hg hH
            simp only [Holds, Is, Nat.zero_add, Nat.reduceAdd] at hH
            obtain ⟨h0, h1, h2, h3, h4, h5, _⟩ := hH
            simp only [List.take_succ_cons, List.take_zero, List.drop_succ_cons, List.drop_zero, putAll, h0, h1, h2, h3, h4, h5, Nat.zero_add, Nat.reduceAdd]
            have hR8 := HR7.out.gr hg
            have hEra := hR8.ep.era E (by simp)
            obtain ⟨D, hD⟩ := hEra.notes
            obtain ⟨kl, hkl⟩ := note_key hnow HY.out
            have HD := Lib.hid hD
            have HKL := Lib.hid (show keyOf Tryz.prog 60 (.agg #[.int .i64 (now : Int), .int .i64 yr, .int .i64 yg, .int .i64 yo, .int .i64 yl]) = some kl from hkl)
            have HR8 := Lib.hid hR8
            have HEb := Lib.hid hEra.blk
            have HN8 := Lib.hid (HB7.out.gr hg)
            have heb := HL5.out E.b (.inr (.inr (.inr ⟨E, by simp, .inl rfl⟩)))
            have hen := HL5.out E.n (.inr (.inr (.inr ⟨E, by simp, .inr rfl⟩)))
            have HWl := Lib.hid (HSz.out)
            have hnb1 : ¬ w.heap.size = nb2 := by omega
            have hebn : ¬ E.b = nb2 := by omega
            have hnen : ¬ E.n = nb2 := by omega
            have hebw : ¬ E.b = w.heap.size := by have := HSz.out E.b (.inr (.inr (.inr ⟨E, by simp, .inl rfl⟩))); omega
            have henw : ¬ E.n = w.heap.size := by have := HSz.out E.n (.inr (.inr (.inr ⟨E, by simp, .inr rfl⟩))); omega
            have hben : ¬ E.n = E.b := map_ne_blk hD hEra.blk
            have hwc : IntKind.i64.wrap ((E.c : Int) + (n : Int)) = (E.c : Int) + (n : Int) := by rw [IntKind.wrap_i64]; omega
            clear hg hR8 hEra hD hkl h0 h1 h2 h3 h4 h5 HR7 HB7
            go_simp
            go_wp2_with (first
              | (at_mapUpdate; refine wpList_mapUpdate_own _ rfl _ _ _ 144 rfl 60 147 note_keyed Tryz.underlying144 unitElem E.n E.m D rfl HD.out (by unfold maxLen; omega) _ _ kl rfl rfl HKL.out (.agg []) [] unitElem_mk ?_; intro w9 o9 k9
                 have b9 := HEb.out.grown k9 (fun e => hben (Option.some.inj e).symm)
                 have c9 := HN8.out.grown k9 (fun e => hnen (Option.some.inj e).symm)
                 have d9 := HR8.out.note.grown k9 (fun e => henw (Option.some.inj e).symm)
                 have e0 := b9.cell (i := 2) (v := .int .i64 (E.c : Int)) rfl
                 have e1 := b9.frozen 2
                 obtain ⟨⟨n0, n1, n2, n3, n4⟩, _⟩ := Blk.five c9
                 obtain ⟨⟨m0, m1, m2, m3, m4⟩, f0, f1, f2, f3, f4⟩ := Blk.five (a := .int .i64 0) (b := .int .i64 0) (c := .int .i64 0) (d := .int .i64 0) (e := .int .i64 0) d9
                 have HB9 := Lib.hid b9
                 have HD9 := Lib.hid d9
                 have HO9 := Lib.hid o9
                 have HK9 := Lib.hid k9
                 clear b9 c9 d9 o9 k9)
              | fail)
            have k10 := grown_set w9 E.b 2 (.int .i64 ((E.c : Int) + (n : Int)))
            have hb10 := HB9.out.set_ 2 (.int .i64 ((E.c : Int) + (n : Int)))
            have hd10 := HD9.out.far (p := ⟨E.b, 2, none⟩) (fun e => hebw e.symm) (.int .i64 ((E.c : Int) + (n : Int)))
            generalize (w9.setCell ⟨E.b, 2, none⟩ (.int .i64 ((E.c : Int) + (n : Int)))) = wA at *
            have kF := grown_trans (grown_set4b wA w.heap.size 0 (.int .i64 (now : Int)) (.int .i64 yr) (.int .i64 yg) (.int .i64 yo)) (grown_set _ w.heap.size 4 (.int .i64 yl))
            have hdF := ((((hd10.set_ 0 (.int .i64 (now : Int))).set_ 1 (.int .i64 yr)).set_ 2 (.int .i64 yg)).set_ 3 (.int .i64 yo)).set_ 4 (.int .i64 yl)
            obtain ⟨⟨r0, r1, r2, r3, r4⟩, _⟩ := Blk.five (a := .int .i64 (now : Int)) (b := .int .i64 yr) (c := .int .i64 yg) (d := .int .i64 yo) (e := .int .i64 yl) hdF
            refine bodyPost_ret (v := .tuple #[.agg #[.int .i64 (now : Int), .int .i64 yr, .int .i64 yg, .int .i64 yo, .int .i64 yl], .int .i64 0]) (by simp [results, Tryz.results19, go_sem, r0, r1, r2, r3, r4]) rfl ?_
            have hs9 := HK9.out.size
            have hsA := k10.size
            have hR := HR8.out
            have hF : ∀ j, j < w1.heap.size → j ≠ E.n → j ≠ E.b → j ≠ w.heap.size → _ := fun j hj h1 h2 h3 =>
              ((kF.block j (by omega) (fun e => h3 (Option.some.inj e))).trans (k10.block j (by omega) (fun e => h2 (Option.some.inj e)))).trans (HK9.out.block j hj (fun e => h1 (Option.some.inj e)))
            obtain ⟨sp1, sp2⟩ := hR.ep.sep
            have sp2 := sp2 E (by simp)
            have hgn := map_ne_blk HD.out hR.ep.eb
            have hgb := blk_ne_typ HEb.out hR.ep.eb (by decide)
            have hlb := map_ne_blk hR.ep.live HEb.out
            have hpb := map_ne_blk hR.ep.pins HEb.out
            have hg0 := HSz.out ge (.inl rfl)
            have hl0 := HSz.out bl (.inr (.inl rfl))
            have hp0 := HSz.out bp (.inr (.inr (.inl rfl)))
            refine ⟨rfl, ⟨(hF ge hR.ep.eb.lt (fun e => hgn e.symm) (fun e => hgb e.symm) (by omega)).trans hR.ep.eb, ownsMap_block hR.ep.live (hF bl hR.ep.live.lt (fun e => sp2.1 e.symm) hlb (by omega)), ownsMap_block hR.ep.pins (hF bp hR.ep.pins.lt (fun e => sp2.2 e.symm) hpb (by omega)), fun x hx => ?_, ⟨sp1, fun x hx => ?_⟩, List.pairwise_singleton _ _, fun x hx => ?_⟩, S2, ?_, hR.sub, ?_⟩
            · rw [List.mem_singleton.1 hx]
              refine ⟨?_, _, ownsMap_block HO9.out ((kF.block E.n (by have := HO9.out.lt; omega) (fun e => henw (Option.some.inj e))).trans (k10.block E.n HO9.out.lt (fun e => hben (Option.some.inj e))))⟩
              exact (kF.block E.b hb10.lt (fun e => hebw (Option.some.inj e))).trans hb10
            · rw [List.mem_singleton.1 hx]; exact sp2
            · rw [List.mem_singleton.1 hx]; exact Nat.le_of_eq HKn.out
            · refine hR.pool.chg (T := fun j => j = E.n ∨ j = E.b ∨ j = w.heap.size) ⟨kF.os.trans (k10.os.trans HK9.out.os), kF.tape.trans (k10.tape.trans HK9.out.tape), kF.output.trans (k10.output.trans HK9.out.output), Nat.le_trans hs9 (Nat.le_trans hsA kF.size), fun j hj hn => hF j hj (fun e => hn (.inl e)) (fun e => hn (.inr (.inl e))) (fun e => hn (.inr (.inr e)))⟩ (fun j hj e => ?_)
              rcases e with rfl | rfl | rfl
              · exact hR.epn _ (.inr (.inr (.inr ⟨E, by simp, .inr rfl⟩))) hj
              · exact hR.epn _ (.inr (.inr (.inr ⟨E, by simp, .inl rfl⟩))) hj
              · exact hR.nn hj
            · refine (hR.chg.wide (fun j hj => .inl hj)).trans (S' := fun j => j = E.n ∨ j = E.b ∨ j = w.heap.size) ⟨kF.os.trans (k10.os.trans HK9.out.os), kF.tape.trans (k10.tape.trans HK9.out.tape), kF.output.trans (k10.output.trans HK9.out.output), Nat.le_trans hs9 (Nat.le_trans hsA kF.size), fun j hj hn => hF j hj (fun e => hn (.inl e)) (fun e => hn (.inr (.inl e))) (fun e => hn (.inr (.inr e)))⟩ (fun j hj => ?_)
              rcases hj with rfl | rfl | rfl
              · exact .inl (.inr (.inr rfl))
              · exact .inl (.inr (.inl rfl))
              · exact .inr (Nat.le_refl _)
end Go.Proofs.YtpaogoehgkoaeaaGreatDoor
