/- Layer 12 (epoch): Advance walked. -/
import Derived.Test.YtpaogoehgkoaeaaGreatDoorQEpMem
import Derived.Test.YtpaogoehgkoaeaaGreatDoorQBunB3
import Derived.Test.YtpaogoehgkoaeaaGreatDoorQBunB0
namespace Go.Proofs.YtpaogoehgkoaeaaGreatDoor
set_option linter.unusedVariables false
set_option linter.unusedSimpArgs false
open Go.RowKit Go.Maps
def MapQ (N : Nat) : Value → World → Prop := fun v w => ∃ b, v = .map (some b) ∧ N ≤ b ∧ w.heap[b]? = some (.map #[] 0)
def EraQ (N r : Nat) : Value → World → Prop := fun v w => ∃ b, v = .agg #[.int .i64 (r : Int), .map (some b), .int .i64 0] ∧ N ≤ b ∧ w.heap[b]? = some (.map #[] 0)
def BoxQ (N r : Nat) : Value → World → Prop := fun v w => ∃ e b, v = .pointer (some ⟨e, 0, none⟩) ∧ N ≤ e ∧ N ≤ b ∧ Blk w e 146 [.int .i64 (r : Int), .map (some b), .int .i64 0] ∧ w.heap[b]? = some (.map #[] 0)
theorem MapQ.stable (N : Nat) : Stable Gr (MapQ N) := fun _ _ _ ⟨b, e, h1, h2⟩ k => ⟨b, e, h1, k.heap h2⟩
theorem EraQ.stable (N r : Nat) : Stable Gr (EraQ N r) := fun _ _ _ ⟨b, e, h1, h2⟩ k => ⟨b, e, h1, k.heap h2⟩
theorem BoxQ.stable (N r : Nat) : Stable Gr (BoxQ N r) := fun _ _ _ ⟨e, b, e1, h1, h2, h3, h4⟩ k => ⟨e, b, e1, h1, h2, h3.gr k, k.heap h4⟩
theorem Chg.wide {S S' : Nat → Prop} {w w' : World} (h : Chg S w w') (hs : ∀ j, S j → S' j) : Chg S' w w' := ⟨h.os, h.tape, h.output, h.size, fun j hj hn => h.block j hj (fun e => hn (hs j e))⟩
theorem wf_i64 {x : Int} (h0 : 0 ≤ x) (h : x ≤ 9223372036854775807) : (Lit.int .i64 x).wf = true := by
  have e1 : IntKind.i64.min = -9223372036854775808 := by decide
  have e2 : IntKind.i64.max = 9223372036854775807 := by decide
  show (decide (IntKind.i64.min ≤ x) && decide (x ≤ IntKind.i64.max)) = true
  rw [e1, e2]
  simp
  omega
theorem epV_now (g now bl bp : Nat) : (epV g now bl bp).set 1 (.int .i64 ((now : Int) + 1)) = epV g (now + 1) bl bp := by simp [epV]
theorem notes_new {w : World} {b : Nat} (h : w.heap[b]? = some (.map #[] 0)) : w.ownsMap Tryz.prog 60 (unitElem (H := Unit)) b 0 (.map []) :=
  ⟨#[], 0, h, ⟨by simp, Go.MapKept.stamped_empty 0, by simp⟩, Nat.le_refl _, rfl⟩
set_option maxRecDepth 100000 in
set_option maxHeartbeats 2000000 in
theorem Advance_any {w : World} {S : Nat → Prop} {g ge bl bp now r : Nat} {K : List Era} {p p' : PoolF} (h : Ep w g ge bl bp now K) (hp : PoolAt w S g p) (ok : PoolOk p) (hgen : ∀ i, i < 256 → (landAt p i).gen ≤ 1000000000) (he : makeR p = (r, 0, p'))
    (hS : ∀ j, epB ge bl bp K j → ¬ S j) (hK : K.length ≤ 1000) (hnow : now ≤ 1000000) :
    Calls Tryz.prog 20 #[.pointer (some ⟨ge, 0, none⟩)] w fun e w' => e = .returned (.tuple #[.int .i64 ((now + 1 : Nat) : Int), .int .i64 0]) ∧
      ∃ b n, Ep w' g ge bl bp (now + 1) (K ++ [⟨now + 1, b, r, n, 0, 0⟩]) ∧ PoolAt w' S g p' ∧ w.heap.size ≤ b ∧ w.heap.size ≤ n ∧ Chg (fun j => S j ∨ j = ge ∨ j = bl) w w' := by
  have HN := Lib.hid (enone_any h.eb)
  have HM := Lib.hid (Make_any w S g p hp ok hgen)
  rw [he] at HM
  obtain ⟨c0, _, _, _, _⟩ := eb_cells h.eb
  have HH := Lib.hid h
  have HS := Lib.hid hS
  have hw1 : IntKind.i64.wrap ((now : Int) + 1) = (now : Int) + 1 := by rw [IntKind.wrap_i64]; omega
  have hgebl := map_ne_blk h.live h.eb
  clear h hp he hgen hS
  go_enter Tryz.func20, Tryz.ntmps20
  go_wp2_with (first
    | (go_at_call 69; go_must (refine HN.out.mono ?_); rintro e w' ⟨rfl, rfl⟩)
    | (go_at_call 58; go_must (refine HM.out.mono ?_); rintro e wm ⟨rfl, m1⟩
       have hE := HH.out.keep (fun j hj => m1.chg.block j (HH.out.lt hj) (HS.out j hj))
       obtain ⟨d0, d1, d2, d3, d5⟩ := eb_cells hE.eb
       have df := hE.eb.frozen 1
       have HE := Lib.hid hE
       have HMv := Lib.hid m1
       clear hE m1 c0)
    | fail)
  have HB2 := Lib.hid (show Blk (wm.setCell ⟨ge, 1, none⟩ (.int .i64 ((now : Int) + 1))) ge 128 (epV g (now + 1) bl bp) by rw [← epV_now]; exact HE.out.eb.set_ 1 _)
  have HK2 := Lib.hid (grown_set wm ge 1 (.int .i64 ((now : Int) + 1)))
  generalize (wm.setCell ⟨ge, 1, none⟩ (.int .i64 ((now : Int) + 1))) = W2 at *
  clear d0 d1 d2 d3 d5 df hw1
  refine region_tail_gr 12 _ [Is ?r0, Is ?r1, Is ?r2, Is (.map (some bl)), Is ?r4, Is ?r5, Is ?r6, Is (.int .i64 ((now : Int) + 1)), Is ?r8, MapQ W2.heap.size, EraQ W2.heap.size r, BoxQ W2.heap.size r] (by kernel_rfl) (by kernel_rfl) (by kernel_rfl) (by kernel_rfl) rfl rfl ⟨Is.stable _, Is.stable _, Is.stable _, Is.stable _, Is.stable _, Is.stable _, Is.stable _, Is.stable _, Is.stable _, MapQ.stable _, EraQ.stable _ _, BoxQ.stable _ _, trivial⟩ ⟨?s0, ?s1, ?s2, ?s3, ?s4, ?s5, ?s6, ?s7, ?s8, ?s9, ?s10, ?s11, trivial⟩ ?fin
  case' s0 | s1 | s2 | s3 | s4 | s5 | s6 | s7 | s8 | s9 | s10 | s11 =>
    intro ρ wr hρ hg hK
    simp [readsOf, slotsOf, Op.operands, Call.operands, tmpOf, List.filterMap_cons, List.filterMap_nil, KnownAll, knownOf, srcOf, depsOf, dstOf, Region.binds, nth, Is] at hK
    obtain ⟨hc, hf, hgl⟩ := hρ
    try simp only [wantedBy, dstOf, boolOf, nth, List.getD_cons_zero, List.getD_cons_succ, List.getElem?_cons_zero, List.getElem?_cons_succ, Option.bind_some, if_true, hK, BEq.rfl]
    try go_simp
    first | exact rfl | (rw [if_pos (by omega)]; exact is_here rfl) | (rw [dif_pos (by omega)]; exact is_here rfl) | exact congrArg (Value.int _) (IntWalk.i64_in _ ⟨by omega, by omega⟩) | skip
  case s3 =>
    have z := (HB2.out.gr hg).cell (i := 2) rfl
    go_simp
    exact rfl
  case s7 =>
    have z := (HB2.out.gr hg).cell (i := 1) rfl
    go_simp
    exact rfl
  case s9 =>
    exact ⟨Gr.alloc _ _, wr.heap.size, rfl, hg.size, heap_alloc_new _ _⟩
  case s10 =>
    obtain ⟨_, b, eb, h1, h2⟩ := hK
    rw [eb]
    exact ⟨Gr.refl _, b, rfl, h1, h2⟩
  case s11 =>
    obtain ⟨b, eb, h1, h2⟩ := hK
    rw [eb]
    exact ⟨Gr.alloc _ _, wr.heap.size, b, rfl, hg.size, h1, Blk.new _ _ _, (Gr.alloc _ _).heap h2⟩
  case fin =>
    intro w1 val hg hH
    simp only [Holds, Is, Nat.zero_add, Nat.reduceAdd] at hH
    obtain ⟨h0, h1, h2, h3, h4, h5, h6, h7, h8, h9, h10, h11, _⟩ := hH
    simp only [List.take_succ_cons, List.take_zero, List.drop_succ_cons, List.drop_zero, putAll, h0, h1, h2, h3, h4, h5, h6, h7, h8, Nat.zero_add, Nat.reduceAdd]
    obtain ⟨e, b, h11, hNe, hNb, hbe, hbn⟩ := h11
    simp only [h11]
    have HL := Lib.hid (ownsMap_gr (ownsMap_block HE.out.live (HK2.out.block bl HE.out.live.lt (fun e => hgebl (Option.some.inj e)))) hg)
    have HG := Lib.hid hg
    have HBe := Lib.hid hbe
    have HBn := Lib.hid hbn
    clear hg hbe hbn h9 h10 h11
    go_simp
    go_wp2_with (first
      | (at_mapUpdate; refine wpList_mapUpdate_own _ rfl _ _ _ 125 rfl 3 143 (int_keyed Tryz.underlying3) Tryz.underlying125 Rp bl K.length (liveD K) rfl HL.out (by unfold maxLen; omega) _ _ (.int .i64 ((now : Int) + 1)) rfl rfl (keyOf_int_mk Tryz.underlying3 (wf_i64 (by omega) (by omega))) (.lit (.int .i64 (e : Int))) [] rfl ?_; intro w5 o5 k5
         have d1 := ((HB2.out.gr HG.out).grown k5 (fun e => hgebl (Option.some.inj e).symm)).cell (i := 1) rfl
         have HO5 := Lib.hid o5; have HK5 := Lib.hid k5
         clear o5 k5)
      | fail)
    go_ret2
    obtain ⟨sp1, sp2⟩ := HE.out.sep
    have hs2 := HK2.out.size
    have hsm := HMv.out.chg.size
    have hge := HE.out.eb
    have h25 : ∀ j, j < wm.heap.size → j ≠ ge → j ≠ bl → w5.heap[j]? = wm.heap[j]? := fun j hj h1 h2 => by
      have a1 := HK2.out.block j hj (fun e => h1 (Option.some.inj e))
      have a2 := HG.out.block j (by omega)
      have a3 := HK5.out.block j (by have := HG.out.size; omega) (fun e => h2 (Option.some.inj e))
      rw [a3, a2, a1]
    have hlt := fun j (hj : epB ge bl bp K j) => HE.out.lt hj
    have hle : ∀ x ∈ K, x.k < now + 1 := fun x hx => Nat.lt_succ_of_le (HE.out.le x hx)
    refine ⟨rfl, e, b, ⟨?_, ?_, ?_, ?_, ?_, ?_, ?_⟩, ?_, ?_, ?_, ?_⟩
    · exact (HB2.out.gr HG.out).grown HK5.out (fun e => hgebl (Option.some.inj e).symm)
    · have := HO5.out
      rw [show (now : Int) + 1 = ((now + 1 : Nat) : Int) by omega, live_put (e := ⟨now + 1, e, r, b, 0, 0⟩) hle] at this
      rw [List.length_append]
      exact this
    · exact ownsMap_block HE.out.pins (h25 _ (hlt _ (.inr (.inr (.inl rfl)))) (map_ne_blk HE.out.pins hge) (fun e => sp1 e.symm))
    · intro x hx
      rcases List.mem_append.1 hx with hx | hx
      · have hE := HE.out.era x hx
        obtain ⟨D, hD⟩ := hE.notes
        exact ⟨(h25 _ hE.blk.lt (blk_ne_typ hE.blk hge (by decide)) (fun e => map_ne_blk HE.out.live hE.blk e.symm)).trans hE.blk, D, ownsMap_block hD (h25 _ hD.lt (map_ne_blk hD hge) (sp2 x hx).1)⟩
      · rw [List.mem_singleton.1 hx]
        have hbl := HE.out.live.lt
        exact ⟨HBe.out.grown HK5.out (fun e => by have := Option.some.inj e; omega), .map [], ownsMap_block (notes_new HBn.out) (HK5.out.block b (Array.getElem?_eq_some_iff.1 HBn.out).1 (fun e => by have := Option.some.inj e; omega))⟩
    · refine ⟨sp1, fun x hx => ?_⟩
      rcases List.mem_append.1 hx with hx | hx
      · exact sp2 x hx
      · rw [List.mem_singleton.1 hx]
        have h1 := HE.out.live.lt
        have h2 := HE.out.pins.lt
        exact ⟨by simp only; omega, by simp only; omega⟩
    · rw [List.pairwise_append]
      refine ⟨HE.out.dist, List.pairwise_singleton _ _, fun x hx y hy => ?_⟩
      rw [List.mem_singleton.1 hy]
      have hE := HE.out.era x hx
      obtain ⟨D, hD⟩ := hE.notes
      have h1 := hE.blk.lt
      have h2 := hD.lt
      exact ⟨hle x hx, by simp only; omega, by simp only; omega⟩
    · intro x hx
      rcases List.mem_append.1 hx with hx | hx
      · exact Nat.le_of_lt (hle x hx)
      · rw [List.mem_singleton.1 hx]; exact Nat.le_refl _
    · refine HMv.out.pool.chg (T := fun j => j = ge ∨ j = bl) ((Chg.grown HK2.out (.inl rfl)).trans ((HG.out.chg (S := fun j => j = ge ∨ j = bl)).trans (Chg.grown HK5.out (.inr rfl)) (fun j hj => .inl hj)) (fun j hj => .inl hj)) (fun j hj e => ?_)
      rcases e with rfl | rfl
      · exact HS.out _ (.inl rfl) hj
      · exact HS.out _ (.inr (.inl rfl)) hj
    · omega
    · omega
    · refine (HMv.out.chg.wide (fun j hj => .inl hj)).trans (((Chg.grown HK2.out (S := fun j => S j ∨ j = ge ∨ j = bl) (.inr (.inl rfl))).trans ((HG.out.chg (S := fun j => S j ∨ j = ge ∨ j = bl)).trans (Chg.grown HK5.out (.inr (.inr rfl))) (fun j hj => .inl hj)) (fun j hj => .inl hj))) (fun j hj => .inl hj)
end Go.Proofs.YtpaogoehgkoaeaaGreatDoor
