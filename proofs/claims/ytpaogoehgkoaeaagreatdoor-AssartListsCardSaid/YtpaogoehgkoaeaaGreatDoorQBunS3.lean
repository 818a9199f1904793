/- Layer 11 (skip): Seek, Prev. -/
import Derived.Test.YtpaogoehgkoaeaaGreatDoorQBunB0
import Derived.Test.YtpaogoehgkoaeaaGreatDoorQBunB1
import Derived.Test.YtpaogoehgkoaeaaGreatDoorQBunB2
import Derived.Test.YtpaogoehgkoaeaaGreatDoorQBunB3
import Derived.Test.YtpaogoehgkoaeaaGreatDoorQBunB4
import Derived.Test.YtpaogoehgkoaeaaGreatDoorQBunS0
import Derived.Test.YtpaogoehgkoaeaaGreatDoorQBunS1
import Derived.Test.YtpaogoehgkoaeaaGreatDoorQBunS2
/- Layer 11 (skip): First, Last, Cell. -/
namespace Go.Proofs.YtpaogoehgkoaeaaGreatDoor
set_option linter.unusedVariables false
set_option linter.unusedSimpArgs false
open Go.RowKit Ikey Varint
/-- where a cursor stands when it is told of a node -/
def stE : Option Nd → Int
  | none => 15
  | some _ => 0
def stS (off : Int) : Option Nd → Int
  | none => off
  | some _ => 1
def stQ (q : Nat × Nat) : Option Nd → Nat × Nat
  | none => q
  | some x => (x.off, x.size)
theorem stand_any (w : World) (gl gc : Nat) (side off : Int) (q : Nat × Nat) (o : Option Nd) (hc : Blk w gc 151 (curV gl side q)) (ho : ∀ x, o = some x → 1 ≤ x.size) :
    Calls Tryz.prog 75 #[.pointer (some ⟨gc, 0, none⟩), lnk (linkF o), .int .i64 0, .int .i64 off] w fun e w' => e = .returned (.int .i64 (stE o)) ∧ Blk w' gc 151 (curV gl (stS off o) (stQ q o)) ∧ Chg (fun j => j = gc) w w' := by
  cases o with
  | none => exact stand_none w gl gc side off q hc
  | some x => exact stand_some w gl gc side off q (x.off, x.size) hc (ho x rfl)
theorem Sl.size {w0 w : World} {S : Nat → Prop} {g gl : Nat} {p : PoolF} {L : Ls} {N : List Nd} (h : Sl w0 w S g gl p L N) {x : Nd} (hx : x ∈ N) : 1 ≤ x.size := by
  have := nd_size (h.st.node x hx).1; omega
set_option maxRecDepth 100000 in
set_option maxHeartbeats 2000000 in
theorem First_sl {w0 w : World} {S : Nat → Prop} {g gl gc : Nat} {p : PoolF} {L : Ls} {N : List Nd} {side : Int} {q : Nat × Nat} (h : Sl w0 w S g gl p L N) (hc : Blk w gc 151 (curV gl side q)) :
    Calls Tryz.prog 74 #[.pointer (some ⟨gc, 0, none⟩)] w fun e w' => e = .returned (.int .i64 (stE (firstN 0 N))) ∧ Blk w' gc 151 (curV gl (stS 2 (firstN 0 N)) (stQ q (firstN 0 N))) ∧ Chg (fun j => j = gc) w w' := by
  have HCK := Lib.hid (checkC_any w g gl gc L side q hc h.sk.blk)
  rw [h.fd, if_neg (by decide)] at HCK
  have HN := Lib.hid (next_none w g gl L 0 h.sk.blk (by decide))
  rw [h.st.heads 0 (by decide), show ((0 : Nat) : Int) = 0 from rfl] at HN
  have HST := Lib.hid (fun w' (hc : Blk w' gc 151 (curV gl side q)) => stand_any w' gl gc side 2 q (firstN 0 N) hc (fun x hx => h.size (firstN_mem hx)))
  have HC := Lib.hid hc
  obtain ⟨c0, _, _, _⟩ := Blk.four hc
  obtain ⟨y, hy⟩ : ∃ y : Nat × Nat, y = linkF (firstN 0 N) := ⟨_, rfl⟩
  rw [← hy] at HN HST
  generalize firstN 0 N = o at *
  obtain ⟨y1, y2⟩ := y
  unfold lnk at HN HST
  simp only at HN HST
  clear hc h hy
  go_enter Tryz.func74, Tryz.ntmps74
  go_wp2_with (first
    | (go_at_call 73; go_must (refine HCK.out.mono ?_); rintro e w2 ⟨rfl, rfl⟩)
    | (go_at_call 64; go_must (refine HN.out.mono ?_); rintro e w2 ⟨rfl, g2⟩
       have G3 := Lib.hid (g2.trans (Gr.alloc w2 (.cells #[.int .i64 (y1 : Int), .int .i64 (y2 : Int)] 121)))
       have HC3 := Lib.hid (HC.out.gr G3.out))
    | (go_at_call 75; go_must (refine (HST.out _ HC3.out).mono ?_); rintro e w4 ⟨rfl, b4, k4⟩)
    | fail)
  go_ret
  exact ⟨rfl, b4, (G3.out.chg (S := fun j => j = gc)).trans k4 (fun j hj => .inl hj)⟩
end Go.Proofs.YtpaogoehgkoaeaaGreatDoor
/- Layer 11 (skip): Cell, Next. -/
namespace Go.Proofs.YtpaogoehgkoaeaaGreatDoor
set_option linter.unusedVariables false
set_option linter.unusedSimpArgs false
open Go.RowKit Ikey Varint
set_option maxRecDepth 100000 in
set_option maxHeartbeats 2000000 in
theorem Cell_at {w0 w : World} {S : Nat → Prop} {g gl gc : Nat} {p : PoolF} {L : Ls} {N a b : List Nd} {x : Nd} (h : Sl w0 w S g gl p L N) (hN : N = a ++ x :: b) (hc : Blk w gc 151 (curV gl 1 (x.off, x.size))) :
    Calls Tryz.prog 25 #[.pointer (some ⟨gc, 0, none⟩)] w fun e w' => e = .returned (.tuple #[ceV x.c, .int .i64 0]) ∧ Gr w w' := by
  have g1 := Gr.alloc w (.cells #[.string ⟨#[]⟩, .int .i64 0, .int .i64 0, .string ⟨#[]⟩] 56)
  have HCK := Lib.hid (checkC_any _ g gl gc L 1 (x.off, x.size) (hc.gr g1) (h.sk.blk.gr g1))
  rw [h.fd, if_neg (by decide)] at HCK
  have hxm : x ∈ N := by rw [hN]; simp
  have n1 := (h.st.node x hxm).1
  have hs14 := (nd_size n1).1
  have hbl := nodeB_len x.t (fun k => linkF (firstN k b)) x.c
  have HLD := Lib.hid (fun w' (hg' : Gr w w') => lload_any w' S g gl p L (x.off, x.size) _ (h.sk.gr hg') (h.st.ld a x b hN) (by omega))
  have HCE := Lib.hid (fun b0 cap w' hc hcm hb => cell_any b0 0 cap _ x.t (fun k => linkF (firstN k b)) x.c w' n1.t1 n1.t2 n1.ok n1.vl rfl hc hcm hb)
  have hlen : 1 ≤ (nodeB x.t (fun k => linkF (firstN k b)) x.c).length := by omega
  generalize nodeB x.t (fun k => linkF (firstN k b)) x.c = bb at *
  obtain ⟨c0, c1, c2, c3, _⟩ := Blk.four (hc.gr g1)
  have HC := Lib.hid (hc.gr g1)
  have B1 := Lib.hid (Blk.new w 56 #[.string ⟨#[]⟩, .int .i64 0, .int .i64 0, .string ⟨#[]⟩])
  have G1 := Lib.hid g1
  unfold lnk at HLD
  unfold ceV at HCE ⊢
  simp only at HLD
  clear hc h hN hxm n1 hbl g1
  go_enter Tryz.func25, Tryz.ntmps25
  go_wp2_with (first
    | (go_at_call 73; go_must (refine HCK.out.mono ?_); rintro e w2 ⟨rfl, rfl⟩)
    | fail)
  refine region_any_gr _ [Is ?r0, Is ?r1, Is ?r2, Is (.pointer (some ⟨gl, 0, none⟩)), Is ?r4, Is ?r5, Is (.pointer (some ⟨gc, 2, none⟩)), Is (.agg #[.int .i64 (x.off : Int), .int .i64 (x.size : Int)]), LdT bb, LdT bb, LdB bb, Is (.int .i64 0), LdB bb, Is (.int .i64 0)] (by kernel_rfl) (by kernel_rfl) (by kernel_rfl) rfl rfl ⟨Is.stable _, Is.stable _, Is.stable _, Is.stable _, Is.stable _, Is.stable _, Is.stable _, Is.stable _, LdT.stable bb, LdT.stable bb, LdB.stable bb, Is.stable _, LdB.stable bb, Is.stable _, trivial⟩ ⟨?s0, ?s1, ?s2, ?s3, ?s4, ?s5, ?s6, ?s7, ?s8, ?s9, ?s10, ?s11, ?s12, ?s13, trivial⟩ ?fin
  case' s0 | s1 | s2 | s3 | s4 | s5 | s6 | s7 | s8 | s9 | s10 | s11 | s12 | s13 =>
    intro ρ wr hρ hg hK
    simp [readsOf, slotsOf, Op.operands, Call.operands, tmpOf, List.filterMap_cons, List.filterMap_nil, KnownAll, knownOf, srcOf, depsOf, dstOf, Region.binds, nth, Is] at hK
    obtain ⟨hc, hf, hgl⟩ := hρ
    try simp only [wantedBy, dstOf, boolOf, nth, List.getD_cons_zero, List.getD_cons_succ, List.getElem?_cons_zero, List.getElem?_cons_succ, Option.bind_some, if_true, hK, BEq.rfl]
    try go_simp
    first | exact rfl | (rw [if_pos (by omega)]; exact is_here rfl) | (rw [dif_pos (by omega)]; exact is_here rfl) | exact congrArg (Value.int _) (IntWalk.i64_in _ ⟨by omega, by omega⟩) | skip
  case s3 =>
    obtain ⟨d0, d1, d2, d3, _⟩ := Blk.four (HC.out.gr hg)
    go_simp
    exact rfl
  case s7 =>
    obtain ⟨d0, d1, d2, d3, _⟩ := Blk.four (HC.out.gr hg)
    go_simp
    exact rfl
  case s8 =>
    refine (HLD.out _ (G1.out.trans hg)).mono ?_
    rintro e w2 ⟨v, he, hg2, h⟩
    exact ⟨v, he, hg2, h⟩
  case s10 =>
    obtain ⟨s, e, hs⟩ := hK
    rw [e]
    exact ⟨Gr.refl _, hs⟩
  case s11 =>
    obtain ⟨s, e, hs⟩ := hK
    rw [e]
    exact is_here rfl
  case fin =>
    intro w1 val hg hH
    simp only [Holds, Is, Nat.zero_add, Nat.reduceAdd] at hH
    obtain ⟨h0, h1, h2, h3, h4, h5, h6, h7, h8, h9, h10, h11, h12, h13, _⟩ := hH
    simp only [List.take_succ_cons, List.take_zero, List.drop_succ_cons, List.drop_zero, putAll, h0, h1, h2, h3, h4, h5, h6, h7, h11, h13, Nat.zero_add, Nat.reduceAdd]
    obtain ⟨gb, cap, e12, hc1, hc2, hb⟩ := h12
    have HBY := Lib.hid hb
    have G2 := Lib.hid (G1.out.trans hg)
    have B2 := Lib.hid (B1.out.gr hg)
    simp only [e12]
    clear hb h8 h9 h10 hg
    go_simp
    go_wp2_with (first
      | (go_at_call 77; go_must (refine (HCE.out _ _ _ hc1 hc2 HBY.out).mono ?_); rintro e w7 ⟨rfl, g7⟩
         have G7 := Lib.hid (G2.out.trans g7)
         have B7 := Lib.hid (B2.out.gr g7))
      | ((with_reducible show Go.wpList _ _ _ (Oper.mk _ (Op.store 56 (Operand.tmp 2) _) _ _ _ _ :: _) _ _); go_must (refine wp_store_row rfl _ _ _ rfl rfl (cs' := [.string (str x.c.key), .int .i64 (x.c.seq : Int), .int .i64 (x.c.kind : Int), .string (str x.c.val)]) rfl B7.out (n := 4) (by kernel_rfl) rfl rfl (fun v hv => by simp at hv; rcases hv with rfl | rfl | rfl | rfl <;> rfl) ?_); intro w8 B8 k8
         have G8 := Lib.hid (G7.out.grown k8 (fun k e => by cases e; exact Nat.le_refl _))
         obtain ⟨z0, z1, z2, z3, _⟩ := B8.four
         clear k8 B8)
      | fail)
    refine bodyPost_ret (v := .tuple #[ceV x.c, .int .i64 0]) (by unfold ceV; simp [results, Tryz.results25, go_sem, z0, z1, z2, z3]; try rfl) rfl ⟨rfl, G8.out⟩
def Z1 : Nat → Obj := fun _ => .cells #[.int .i64 0, .int .i64 0] 121 (0, 0)
def F1 (q : Nat × Nat) : Nat → Obj := fun _ => .cells #[.int .i64 (q.1 : Int), .int .i64 (q.2 : Int)] 121 (0, 0)
set_option maxRecDepth 100000 in
set_option maxHeartbeats 2000000 in
theorem Next_at {w0 w : World} {S : Nat → Prop} {g gl gc : Nat} {p : PoolF} {L : Ls} {N a b : List Nd} {x : Nd} (h : Sl w0 w S g gl p L N) (hN : N = a ++ x :: b) (hc : Blk w gc 151 (curV gl 1 (x.off, x.size))) :
    Calls Tryz.prog 24 #[.pointer (some ⟨gc, 0, none⟩)] w fun e w' => e = .returned (.int .i64 (stE (firstN 0 b))) ∧ Blk w' gc 151 (curV gl (stS 2 (firstN 0 b)) (stQ (x.off, x.size) (firstN 0 b))) ∧ Chg (fun j => j = gc) w w' := by
  have HCK := Lib.hid (checkC_any w g gl gc L 1 (x.off, x.size) hc h.sk.blk)
  rw [h.fd, if_neg (by decide)] at HCK
  have hxm : x ∈ N := by rw [hN]; simp
  have HN := Lib.hid (fun w' (hg : Gr w w') => next_any w' S g gl p L N b (some x) 0 (h.sk.gr hg) h.st (.inr ⟨a, x, rfl, hN, (h.st.node x hxm).1.t1⟩) (by decide))
  rw [show ((0 : Nat) : Int) = 0 from rfl, show linkF (some x) = (x.off, x.size) from rfl] at HN
  have HST := Lib.hid (fun w' (hc : Blk w' gc 151 (curV gl 1 (x.off, x.size))) => stand_any w' gl gc 1 2 (x.off, x.size) (firstN 0 b) hc (fun y hy => h.size (by rw [hN]; have := firstN_mem hy; simp [this])))
  have HC := Lib.hid hc
  obtain ⟨c0, c1, c2, c3, _⟩ := Blk.four hc
  obtain ⟨y, hy⟩ : ∃ y : Nat × Nat, y = linkF (firstN 0 b) := ⟨_, rfl⟩
  rw [← hy] at HN HST
  generalize firstN 0 b = o at *
  obtain ⟨y1, y2⟩ := y
  unfold lnk at HN HST
  simp only at HN HST
  clear hc h hy hN hxm
  go_enter Tryz.func24, Tryz.ntmps24
  go_wp2_with (first
    | (go_at_call 73; go_must (refine HCK.out.mono ?_); rintro e w2 ⟨rfl, rfl⟩)
    | fail)
  refine region_ghost (Le := NLe Z1 (F1 (y1, y2))) (PreN (fun i => i + 12)) NLe.refl NLe.trans (fun _ => none) PreN.start _ [IsG ?r0x1, IsG ?r1x1, IsG ?r2x1, IsG (.pointer (some ⟨gl, 0, none⟩)), IsG ?r4x1, IsG ?r5x1, IsG (.pointer (some ⟨gc, 2, none⟩)), IsG (.agg #[.int .i64 (x.off : Int), .int .i64 (x.size : Int)]), IsG (.tuple #[.agg #[.int .i64 (y1 : Int), .int .i64 (y2 : Int)], .int .i64 0]), IsG (.tuple #[.agg #[.int .i64 (y1 : Int), .int .i64 (y2 : Int)], .int .i64 0]), IsG (.agg #[.int .i64 (y1 : Int), .int .i64 (y2 : Int)]), IsG (.int .i64 0), AlN 0, StN (F1 (y1, y2)) 0, IsG (.int .i64 0)] (by kernel_rfl) (by kernel_rfl) (by kernel_rfl) rfl rfl ⟨IsG.stable _, IsG.stable _, IsG.stable _, IsG.stable _, IsG.stable _, IsG.stable _, IsG.stable _, IsG.stable _, IsG.stable _, IsG.stable _, IsG.stable _, IsG.stable _, AlN.stable 0, StN.stable 0, IsG.stable _, trivial⟩ ⟨?s0x1, ?s1x1, ?s2x1, ?s3x1, ?s4x1, ?s5x1, ?s6x1, ?s7x1, ?s8x1, ?s9x1, ?s10x1, ?s11x1, ?s12x1, ?s13x1, ?s14x1, trivial⟩ ?finx1
  case' s0x1 | s1x1 | s2x1 | s3x1 | s4x1 | s5x1 | s6x1 | s7x1 | s8x1 | s9x1 | s10x1 | s11x1 | s14x1 =>
    intro ρ wr gh hρ hg hK
    simp [readsOf, slotsOf, Op.operands, Call.operands, tmpOf, List.filterMap_cons, List.filterMap_nil, KnownAll, knownOf, srcOf, depsOf, dstOf, Region.binds, nthG, IsG, IsS] at hK
    obtain ⟨hc, hf, hgl⟩ := hρ
    try simp only [wantedBy, dstOf, boolOf, nthG, List.getD_cons_zero, List.getD_cons_succ, List.getElem?_cons_zero, List.getElem?_cons_succ, Option.bind_some, if_true, hK, BEq.rfl]
    try go_simp
    first | exact rfl | exact pureG NLe.refl rfl | (refine pureG NLe.refl ?_; go_simp; done) | (refine pureG NLe.refl ?_; rfl) | (rw [if_pos (by omega)]; exact pureG NLe.refl rfl) | (rw [dif_pos (by omega)]; exact pureG NLe.refl rfl) | exact pureG NLe.refl (congrArg (Value.int _) (IntWalk.i64_in _ ⟨by omega, by omega⟩)) | skip
  case' s12x1 | s13x1 =>
    intro ρ wr gh hρ hg hK
    simp [readsOf, slotsOf, Op.operands, Call.operands, tmpOf, List.filterMap_cons, List.filterMap_nil, KnownAll, knownOf, srcOf, depsOf, dstOf, Region.binds, nthG, IsG, IsS] at hK
    obtain ⟨hc, hf, hgl⟩ := hρ
    try simp only [wantedBy, dstOf, boolOf, nthG, List.getD_cons_zero, List.getD_cons_succ, List.getElem?_cons_zero, List.getElem?_cons_succ, Option.bind_some, if_true, hK, BEq.rfl]
  case s3x1 =>
    have d0 := hg.1.gr0.cell ((Gr.drew w).cell c0)
    go_simp
    exact pureG NLe.refl rfl
  case s7x1 =>
    have d2 := hg.1.gr0.cell ((Gr.drew w).cell c2)
    have d3 := hg.1.gr0.cell ((Gr.drew w).cell c3)
    go_simp
    exact pureG NLe.refl rfl
  case s8x1 =>
    have HL := Lib.hid hg.1
    have hgr := (Gr.drew w).trans hg.1.gr0
    clear hg
    exact newG_call HL.out (HN.out _ hgr)
  case s12x1 =>
    have HL := Lib.hid hg.1
    have HP := Lib.hid (hg.2 12 (by kernel_rfl))
    clear hg
    go_simp
    exact newG_alloc (al := fun i => i + 12) HL.out 0 HP.out
  case s13x1 =>
    obtain ⟨⟨bq, e4, hb⟩, e31⟩ := hK
    exact newG_put (i := 0) hg.1 _ _ _ rfl e4 hb e31 rfl rfl (n := 2) (by kernel_rfl) rfl rfl (fun v hv => by simp at hv; rcases hv with rfl | rfl <;> rfl)
  case finx1 =>
    intro w1 g1 val hg hH
    simp only [HoldsG, IsG, IsS, Nat.zero_add, Nat.reduceAdd] at hH
    obtain ⟨h0, h1, h2, h3, h4, h5, h6, h7, h8, h9, h10, h11, h12, h13, h14, _⟩ := hH
    simp only [List.take_succ_cons, List.take_zero, List.drop_succ_cons, List.drop_zero, putAll, h0, h1, h2, h3, h4, h5, h6, h7, h8, h9, h10, h11, h14, Nat.zero_add, Nat.reduceAdd]
    obtain ⟨bq, e12, hb⟩ := h12
    obtain ⟨b2, hb2, hf2⟩ := h13
    have eb : b2 = bq := by rw [hb] at hb2; cases hb2; rfl
    rw [eb] at hf2
    have G3 := Lib.hid ((Gr.drew w).trans hg.gr0)
    have hn := hg.row hb
    have BN : Blk w1 bq 121 [.int .i64 (y1 : Int), .int .i64 (y2 : Int)] := hf2
    obtain ⟨n0, n1, _, _⟩ := BN.two4
    have HC3 := Lib.hid (HC.out.gr G3.out)
    simp only [e12]
    clear hg hn hf2 hb hb2 BN
    go_simp
    go_wp2_with (first
      | (go_at_call 75; go_must (refine (HST.out _ HC3.out).mono ?_); rintro e w4 ⟨rfl, b4, k4⟩)
      | fail)
    go_ret
    exact ⟨rfl, b4, (G3.out.chg (S := fun j => j = gc)).trans k4 (fun j hj => .inl hj)⟩
end Go.Proofs.YtpaogoehgkoaeaaGreatDoor
namespace Go.Proofs.YtpaogoehgkoaeaaGreatDoor
set_option linter.unusedVariables false
set_option linter.unusedSimpArgs false
open Go.RowKit Ikey Varint
def F2 (R : Nat → Nat × Nat) (q : Nat × Nat) : Nat → Obj := fun i => if i = 0 then .cells (rowV R 12).toArray 122 (0, 0) else .cells #[.int .i64 (q.1 : Int), .int .i64 (q.2 : Int)] 121 (0, 0)
set_option maxRecDepth 100000 in
set_option maxHeartbeats 2000000 in
theorem Next_front {w0 w : World} {S : Nat → Prop} {g gl gc : Nat} {p : PoolF} {L : Ls} {N : List Nd} {q : Nat × Nat} (h : Sl w0 w S g gl p L N) (hc : Blk w gc 151 (curV gl 0 q)) :
    Calls Tryz.prog 24 #[.pointer (some ⟨gc, 0, none⟩)] w fun e w' => e = .returned (.int .i64 (stE (firstN 0 N))) ∧ Blk w' gc 151 (curV gl (stS 2 (firstN 0 N)) (stQ q (firstN 0 N))) ∧ Chg (fun j => j = gc) w w' := by
  have HCK := Lib.hid (checkC_any w g gl gc L 0 q hc h.sk.blk)
  rw [h.fd, if_neg (by decide)] at HCK
  have HF := Lib.hid (First_sl h hc)
  obtain ⟨c0, c1, _, _⟩ := Blk.four hc
  generalize firstN 0 N = o at *
  clear hc h
  go_enter Tryz.func24, Tryz.ntmps24
  go_wp2_with (first
    | (go_at_call 73; go_must (refine HCK.out.mono ?_); rintro e w2 ⟨rfl, rfl⟩)
    | (go_at_call 74; go_must (refine HF.out.mono ?_); rintro e w2 ⟨rfl, b2, k2⟩)
    | fail)
  go_ret
  exact ⟨rfl, b2, k2⟩
end Go.Proofs.YtpaogoehgkoaeaaGreatDoor
