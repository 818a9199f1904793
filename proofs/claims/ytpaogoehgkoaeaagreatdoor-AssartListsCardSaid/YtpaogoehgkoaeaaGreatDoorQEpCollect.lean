/- Layer 12 (epoch): Collect walked, where one epoch ended. -/
import Derived.Test.YtpaogoehgkoaeaaGreatDoorQEpRetire
namespace Go.Proofs.YtpaogoehgkoaeaaGreatDoor
set_option linter.unusedVariables false
set_option linter.unusedSimpArgs false
open Go.RowKit Go.Maps
set_option maxRecDepth 100000 in
set_option maxHeartbeats 4000000 in
theorem Collect_any {w : World} {S : Nat → Prop} {g ge bl bp now : Nat} {E F : Era} {p p' : PoolF} (h : Ep w g ge bl bp now [E, F]) (hF : F.k = now) (hp : PoolAt w S g p) (ok : PoolOk p) (hS : ∀ j, epB ge bl bp [E, F] j → ¬ S j) (hfr : freeF p (E.r : Int) = (0, p')) (hnow : now ≤ 1000000) :
    Calls Tryz.prog 21 #[.pointer (some ⟨ge, 0, none⟩)] w fun e w' => e = .returned (.tuple #[.int .i64 1, .int .i64 0]) ∧ Ep w' g ge bl bp now [F] ∧ PoolAt w' S g p' ∧ Chg (fun j => S j ∨ j = bl) w w' := by
  have hlt : E.k < F.k := by
    have := h.dist
    simp at this
    exact this.1
  have HN := Lib.hid (enone_any h.eb)
  have HL := Lib.hid (elive_any h (by simp))
  have HH := Lib.hid h
  have HP := Lib.hid hp
  have HS := Lib.hid hS
  have HSl := Lib.hid hp.lt
  have HFr := Lib.hid (fun wr (hp : PoolAt wr S g p) => by have := Free_any wr S g p (E.r : Int) hp ok; rw [hfr] at this; exact this)
  have HSz := Lib.hid (fun j (hj : epB ge bl bp [E, F] j) => h.lt hj)
  have HLk := Lib.hid (show ∀ wr, Ep wr g ge bl bp now [E, F] → (Instr.lookup 125 (.map (some bl)) (.int .i64 (E.k : Int)) false).run Tryz.prog wr = .ok (.pointer (some ⟨E.b, 0, none⟩)) wr from fun wr hE => by
    obtain ⟨v, ps, hrun, hv⟩ := hE.live.lookup (int_keyed Tryz.underlying3) Tryz.underlying125 (z := .pointer none) (by kernel_rfl) (zd := .lit (.bool false)) (zp := []) rfl (keyOf_int_mk Tryz.underlying3 (wf_i64 (x := (E.k : Int)) (by omega) (by omega)))
    rw [live_at2] at hv
    rw [hrun, Rp_inv hv])
  have hkn : (F.k : Int) = (now : Int) := by omega
  clear h hp hS hfr
  go_enter Tryz.func21, Tryz.ntmps21
  go_wp2_with (first
    | (go_at_call 69; go_must (refine HN.out.mono ?_); rintro e w' ⟨rfl, rfl⟩)
    | (go_at_call 70; go_must (refine HL.out.mono ?_); rintro e w2 ⟨ad, cap, rfl, hr, hnb, g2⟩
       have HR := Lib.hid hr; have HNb := Lib.hid hnb; have HG := Lib.hid g2
       clear hr hnb g2)
    | fail)
  go_loopw [4, 13] (fun vn vi wr => ∃ i : Int, vn = .int .i64 i ∧ vi = .int .i64 i ∧ Chg (fun j => S j ∨ j = bl) w2 wr ∧ ((i = 0 ∧ Ep wr g ge bl bp now [E, F] ∧ PoolAt wr S g p) ∨ (i = 1 ∧ Ep wr g ge bl bp now [F] ∧ PoolAt wr S g p'))) (fun _ vi _ => (2 - intOf vi).toNat)
  case atStart => exact ⟨0, rfl, rfl, Chg.refl _, .inl ⟨rfl, HH.out.gr HG.out, HP.out.gr HG.out⟩⟩
  case round =>
    obtain ⟨i, rfl, rfl, hC, hI⟩ := hrel
    obtain ⟨b0, o0, hade, x0⟩ := HR.out 0 (.int .i64 (E.k : Int)) rfl
    obtain ⟨b1, o1, hade1, x1⟩ := HR.out 1 (.int .i64 (F.k : Int)) rfl
    rw [hade] at hade1
    cases hade1
    subst hade
    have hbb := HNb.out _ rfl
    simp only at hbb
    have hnot : ¬ (S b0 ∨ b0 = bl) := by
      rintro (e | e)
      · have := HSl.out _ e; omega
      · have := HSz.out bl (.inr (.inl rfl)); omega
    have x0 := hC.cell x0 hnot
    have x1 := hC.cell x1 hnot
    rw [Nat.add_zero] at x0
    rcases hI with ⟨rfl, hE, hP⟩ | ⟨rfl, hE, hP⟩
    · have HE := Lib.hid hE
      have HPr := Lib.hid hP
      have HC := Lib.hid hC
      have HO := Lib.hid (eold_any hE)
      have dk : decide ((now : Int) ≤ (E.k : Int)) = false := decide_eq_false (by omega)
      have dk2 : decide (now ≤ E.k) = false := decide_eq_false (by omega)
      clear hE hP hC x1
      go_wp2_with (first
        | (go_at_call 71; go_must (refine HO.out.mono ?_); rintro e w3 ⟨rfl, g3⟩
           have HE3 := Lib.hid (HE.out.gr g3)
           have HP3 := Lib.hid (HPr.out.gr g3)
           have HC3 := Lib.hid (HC.out.trans (g3.chg (S := fun j => S j ∨ j = bl)) (fun j hj => .inl hj))
           clear HE HPr HC HO g3)
        | fail)
      refine region_tail_gr 13 _ [Is ?r0, Is ?r1, Is ?r2, Is (.pointer (some ⟨g, 0, none⟩)), Is ?r4, Is ?r5, Is ?r6, Is (.map (some bl)), Is (.int .i64 (E.k : Int)), Is (.pointer (some ⟨E.b, 0, none⟩)), Is ?r10, Is ?r11, Is (.int .i64 (E.r : Int))] (by kernel_rfl) (by kernel_rfl) (by kernel_rfl) (by kernel_rfl) rfl rfl ⟨Is.stable _, Is.stable _, Is.stable _, Is.stable _, Is.stable _, Is.stable _, Is.stable _, Is.stable _, Is.stable _, Is.stable _, Is.stable _, Is.stable _, Is.stable _, trivial⟩ ⟨?s0, ?s1, ?s2, ?s3, ?s4, ?s5, ?s6, ?s7, ?s8, ?s9, ?s10, ?s11, ?s12, trivial⟩ ?fin
      case' s0 | s1 | s2 | s3 | s4 | s5 | s6 | s7 | s8 | s9 | s10 | s11 | s12 =>
        intro ρ wr hρ hg hK
        simp [readsOf, slotsOf, Op.operands, Call.operands, tmpOf, List.filterMap_cons, List.filterMap_nil, KnownAll, knownOf, srcOf, depsOf, dstOf, Region.binds, nth, Is] at hK
        obtain ⟨hc, hf, hgl⟩ := hρ
        try simp only [wantedBy, dstOf, boolOf, nth, List.getD_cons_zero, List.getD_cons_succ, List.getElem?_cons_zero, List.getElem?_cons_succ, Option.bind_some, if_true, hK, BEq.rfl]
        try go_simp
        first | exact rfl | (rw [if_pos (by omega)]; exact is_here rfl) | (rw [dif_pos (by omega)]; exact is_here rfl) | exact congrArg (Value.int _) (IntWalk.i64_in _ ⟨by omega, by omega⟩) | skip
      case s3 =>
        obtain ⟨c0, _, _, _, _⟩ := eb_cells (HE3.out.gr hg).eb
        go_simp
        exact rfl
      case s7 =>
        obtain ⟨_, _, c2, _, _⟩ := eb_cells (HE3.out.gr hg).eb
        go_simp
        exact rfl
      case s9 =>
        rw [HLk.out wr (HE3.out.gr hg)]
        exact ⟨Gr.refl _, rfl⟩
      case s12 =>
        have z := ((HE3.out.gr hg).era E (by simp)).blk.cell (i := 0) (v := .int .i64 (E.r : Int)) rfl
        go_simp
        exact rfl
      case fin =>
        intro w1 val hg hH
        simp only [Holds, Is, Nat.zero_add, Nat.reduceAdd] at hH
        obtain ⟨h0, h1, h2, h3, h4, h5, h6, h7, h8, h9, h10, h11, h12, _⟩ := hH
        simp only [List.take_succ_cons, List.take_zero, List.drop_succ_cons, List.drop_zero, putAll, h0, h1, h2, h3, h4, h5, h6, h7, h8, h9, h10, h11, h12, Nat.zero_add, Nat.reduceAdd]
        have HE4 := Lib.hid (HE3.out.gr hg)
        have HP4 := Lib.hid (HFr.out _ (HP3.out.gr hg))
        have HC4 := Lib.hid (HC3.out.trans (hg.chg (S := fun j => S j ∨ j = bl)) (fun j hj => .inl hj))
        clear HE3 HP3 HC3 hg h0 h1 h2 h3 h4 h5 h6 h7 h8 h9 h10 h11 h12
        go_simp
        go_wp2_with (first
          | (go_at_call 72; go_must (refine HP4.out.mono ?_); rintro e w5 ⟨rfl, m5⟩
             have hE5 := HE4.out.keep (fun j hj => m5.chg.block j (HE4.out.lt hj) (HS.out j hj))
             obtain ⟨_, _, c2, _, _⟩ := eb_cells hE5.eb
             obtain ⟨w6, hdel, o6, k6⟩ := hE5.live.drop (t := 125) (int_keyed Tryz.underlying3) Tryz.underlying125 (key := .int .i64 (E.k : Int)) (keyOf_int_mk Tryz.underlying3 (wf_i64 (by omega) (by omega))) 0
             have HO6 := Lib.hid o6
             have HK6 := Lib.hid k6.grown
             have HE5 := Lib.hid hE5
             clear o6 k6
             have HP5 := Lib.hid m5.pool
             have HC5 := Lib.hid (HC4.out.trans (m5.chg.wide (S' := fun j => S j ∨ j = bl) (fun j hj => .inl hj)) (fun j hj => .inl hj))
             clear hE5 m5 HE4 HP4 HC4)
          | fail)
        go_roundw
        case rel =>
          obtain ⟨sp1, sp2⟩ := HE5.out.sep
          have spE := sp2 E (by simp)
          have spF := sp2 F (by simp)
          have hEF := HE5.out.era F (by simp)
          obtain ⟨D, hD⟩ := hEF.notes
          have hgbl := map_ne_blk HE5.out.live HE5.out.eb
          have hfbl := map_ne_blk HE5.out.live hEF.blk
          have hk : ∀ j, j < w5.heap.size → j ≠ bl → w6.heap[j]? = w5.heap[j]? := fun j hj hn => HK6.out.block j hj (fun e => hn (Option.some.inj e))
          refine ⟨1, rfl, rfl, HC5.out.trans (Chg.grown HK6.out (S := fun j => S j ∨ j = bl) (.inr rfl)) (fun j hj => .inl hj), .inr ⟨rfl, ⟨(hk ge HE5.out.eb.lt (fun e => hgbl e.symm)).trans HE5.out.eb, ?_, ownsMap_block HE5.out.pins (hk bp HE5.out.pins.lt (fun e => sp1 e.symm)), fun x hx => ?_, ⟨sp1, fun x hx => ?_⟩, List.pairwise_singleton _ _, fun x hx => ?_⟩, ?_⟩⟩
          · have := ownsMap_tight HO6.out
            rw [live_del2 hlt, live_size] at this
            exact this
          · rw [List.mem_singleton.1 hx]
            exact ⟨(hk F.b hEF.blk.lt (fun e => hfbl e.symm)).trans hEF.blk, D, ownsMap_block hD (hk F.n hD.lt spF.1)⟩
          · rw [List.mem_singleton.1 hx]; exact spF
          · rw [List.mem_singleton.1 hx]; exact Nat.le_of_eq hF
          · exact HP5.out.chg (T := fun j => j = bl) (Chg.grown HK6.out rfl) (fun j hj e => HS.out bl (.inr (.inl rfl)) (e ▸ hj))
        case measure => simp [intOf]
    · have HE := Lib.hid hE
      have HPr := Lib.hid hP
      have HC := Lib.hid hC
      have HO := Lib.hid (eold_any hE)
      have dk : decide ((now : Int) ≤ (F.k : Int)) = true := decide_eq_true (by omega)
      have dk2 : decide (now ≤ F.k) = true := decide_eq_true (by omega)
      clear hE hP hC x0
      go_wp2_with (first
        | (go_at_call 71; go_must (refine HO.out.mono ?_); rintro e w3 ⟨rfl, g3⟩)
        | fail)
      go_ret2
      exact ⟨rfl, HE.out.gr g3, HPr.out.gr g3, ((HG.out.chg (S := fun j => S j ∨ j = bl)).trans HC.out (fun j hj => .inl hj)).trans (g3.chg (S := fun j => S j ∨ j = bl)) (fun j hj => .inl hj)⟩
end Go.Proofs.YtpaogoehgkoaeaaGreatDoor
