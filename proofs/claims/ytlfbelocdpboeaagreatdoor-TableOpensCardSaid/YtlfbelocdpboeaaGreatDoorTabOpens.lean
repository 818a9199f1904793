/- Layer 14 (table): TableOpens answers true. -/
import Derived.Test.YtlfbelocdpboeaaGreatDoorTabDoc7
namespace Go.Proofs.YtlfbelocdpboeaaGreatDoor
set_option linter.unusedVariables false
set_option linter.unusedSimpArgs false
open Go.RowKit Tab
set_option maxRecDepth 100000 in
set_option maxHeartbeats 4000000 in
theorem TableOpens_any (ad : Option Addr) (cap : Nat) (b : List UInt8) (w : World) (hc : b.length ≤ cap) (hm : cap ≤ maxLen) (hb : Bytes w ad b) :
    Calls Tryz.prog 4 #[.slice ad b.length cap] w fun e w' => e = .returned (.bool true) ∧ Gr w w' := by
  by_cases h6 : 6000 < b.length
  · clear hb hc hm
    have T1 : RowKit.Hid True := trivial
    go_enter Tryz.func4, Tryz.ntmps4
    go_wp2_with (first
      | (go_at_call 5; clear T1; go_must (refine (tabled_any _).mono ?_); rintro e1 w1 ⟨rfl, g1⟩)
      | (go_at_call 5; go_must (refine (tabled_any _).mono ?_); rintro e2 w2 ⟨rfl, g2⟩)
      | fail)
    go_ret
    exact ⟨rfl, g1.trans g2⟩
  · have HD := Lib.hid (fun w' => dOpen_any b w' (by omega))
    rw [doc_open (by omega)] at HD
    have HO := Lib.hid (fun w' (k : Gr w w') => Open_any ad cap b w' hc hm (by omega) (hb.gr k))
    have HB := Lib.hid hb
    have hlI : ¬ 6000 < (b.length : Int) := by omega
    clear hb
    cases ho : openF b with
    | none =>
      rw [ho] at HD HO
      clear ho
      go_enter Tryz.func4, Tryz.ntmps4
      go_wp2_with (first
        | (go_at_call 5; go_must (refine (tabled_any _).mono ?_); rintro e1 w1 ⟨rfl, g1⟩
           have hs1 := run_string (P := Tryz.prog) Tryz.underlying27 Tryz.underlying5 Tryz.underlying9 (cap := cap) (len := b.length) (l := b) rfl (HB.out.gr g1))
        | (go_at_call 9; go_must (refine (HD.out _).mono ?_); rintro e w2 ⟨p2, rfl, g2, hp2, _⟩; obtain rfl := hp2 rfl)
        | (go_at_call 10; go_must (refine (HO.out _ (g1.trans g2)).mono ?_); rintro e w3 ⟨p3, rfl, g3, hp3, _⟩; obtain rfl := hp3 rfl)
        | fail)
      go_ret
      exact ⟨rfl, (g1.trans g2).trans g3⟩
    | some CF =>
      obtain ⟨C, f⟩ := CF
      rw [ho] at HD HO
      have hck : chkT C 1 1 = 0 := by obtain ⟨L, _, _, h, _⟩ := open_some ho; exact h
      obtain ⟨_, _, _, _, hl5, hbg, hne, hord⟩ := chkT_ok hck
      have hasc := ord_asc hord
      have hF : fromF C ⟨[], 0, 0⟩ 10000 = C := by
        rw [from_is hasc, zero_rank (ord_ok hord)]
        exact List.take_of_length_le (by simp; omega)
      have HF := Lib.hid (fun w' g' (h : TabAt w' g' C f) => tFrom_any w' g' C f ⟨[], 0, 0⟩ 10000 h hne (by omega) (mono_of hasc _) (by decide))
      rw [hF] at HF
      unfold RetCs at HF
      have HE := Lib.hid (fun w' g' (h : TabAt w' g' C f) => Ends_any w' g' C f h hne)
      have HCo := Lib.hid (fun w' g' (h : TabAt w' g' C f) => (Count_any w' g' C f h).mono fun e v ⟨h1, h2⟩ => (⟨h1, h2 ▸ Gr.refl _⟩ : e = _ ∧ Gr w' v))
      have hn : 0 < C.length := by cases C with | nil => exact absurd rfl hne | cons => simp
      have k1 : C[0].key = (C.headD zeroC).key := by rw [List.headD_eq_head?_getD, List.head?_eq_getElem?, List.getElem?_eq_getElem hn]; rfl
      have k2 : C[C.length - 1].key = (C.getLastD zeroC).key := by rw [List.getLastD_eq_getLast?, List.getLast?_eq_getElem?, List.getElem?_eq_getElem (by omega)]; rfl
      have hi : (C.length : Int) - 1 = ((C.length - 1 : Nat) : Int) := by omega
      obtain ⟨m, hm0⟩ : ∃ m, m = C.length - 1 := ⟨_, rfl⟩
      have hml : m < C.length := by omega
      have HX := Lib.hid (fun w' adm (h : Row w' adm (cv C)) => (show ∃ bb o, adm = some (⟨bb, o, none⟩ : Addr) ∧ w'.cell? ⟨bb, o, none⟩ = some (.string (str (C.headD zeroC).key)) ∧ w'.cell? ⟨bb, o + m * 4, none⟩ = some (.string (str (C.getLastD zeroC).key)) by
        obtain ⟨bb, o, e, a0, _⟩ := h.ci 0 hn
        obtain ⟨b2, o2, e2, b0, _⟩ := h.ci (C.length - 1) (by omega)
        rw [e] at e2
        cases e2
        rw [k1, Nat.zero_mul, Nat.add_zero] at a0
        rw [k2, ← hm0] at b0
        exact ⟨bb, o, e, a0, b0⟩))
      rw [← hm0] at hi
      clear ho hck hbg hord hasc hF k1 k2 hm0
      generalize (C.headD zeroC).key = ka at *
      generalize (C.getLastD zeroC).key = kb at *
      go_enter Tryz.func4, Tryz.ntmps4
      go_wp2_with (first
        | (go_at_call 5; go_must (refine (tabled_any _).mono ?_); rintro e1 w1 ⟨rfl, g1⟩
           have hs1 := run_string (P := Tryz.prog) Tryz.underlying27 Tryz.underlying5 Tryz.underlying9 (cap := cap) (len := b.length) (l := b) rfl (HB.out.gr g1))
        | (go_at_call 9; go_must (refine (HD.out _).mono ?_); rintro e w2 ⟨p2, rfl, g2, _, hp2⟩; obtain ⟨gm, adm, cm, zm, rfl, bm, hcm, hmm, rm⟩ := hp2 _ _ rfl
           have ym := bm.cell (i := 0) rfl)
        | (go_at_call 10; go_must (refine (HO.out _ (g1.trans g2)).mono ?_); rintro e w3 ⟨p3, rfl, g3, _, hp3⟩; obtain ⟨gt, rfl, ht⟩ := hp3 _ _ rfl
           have ym3 := g3.cell ym
           obtain ⟨bm9, om, rfl, x0, x1⟩ := HX.out _ _ (rm.gr g3)
           have HRm := Lib.hid (rm.gr g3)
           have HTt := Lib.hid ht.at_)
        | fail)
      refine region_any_gr _ [Is (.int .i64 0), Is (.bool false), Is (.bool false), Is (.pointer (some ⟨gt, 0, none⟩)), Is (.bool false), Is (.bool false), Is (.bool false), Is (.pointer (some ⟨gt, 0, none⟩)), Is (.int .i64 (C.length : Int)), Is (.pointer (some ⟨gm, 0, none⟩)), Is (.pointer (some ⟨gm, 0, none⟩)), Is (.pointer (some ⟨gm, 0, none⟩)), Is (.slice (some ⟨bm9, om, none⟩) C.length cm), Is (.int .i64 (C.length : Int)), Is (.bool false), Is (.bool false)] (by kernel_rfl) (by kernel_rfl) (by kernel_rfl) rfl rfl ⟨Is.stable _, Is.stable _, Is.stable _, Is.stable _, Is.stable _, Is.stable _, Is.stable _, Is.stable _, Is.stable _, Is.stable _, Is.stable _, Is.stable _, Is.stable _, Is.stable _, Is.stable _, Is.stable _, trivial⟩ ⟨?s0, ?s1, ?s2, ?s3, ?s4, ?s5, ?s6, ?s7, ?s8, ?s9, ?s10, ?s11, ?s12, ?s13, ?s14, ?s15, trivial⟩ ?fin
      case' s0 | s1 | s2 | s3 | s4 | s5 | s6 | s7 | s8 | s9 | s10 | s11 | s12 | s13 | s14 | s15 =>
        intro ρ wr hρ hg hK
        simp [readsOf, slotsOf, Op.operands, Call.operands, tmpOf, List.filterMap_cons, List.filterMap_nil, KnownAll, knownOf, srcOf, depsOf, dstOf, Region.binds, nth, Is] at hK
        obtain ⟨hc, hf, hgl⟩ := hρ
        try simp only [wantedBy, dstOf, boolOf, nth, List.getD_cons_zero, List.getD_cons_succ, List.getElem?_cons_zero, List.getElem?_cons_succ, Option.bind_some, if_true, hK, BEq.rfl]
        try go_simp
        first | exact rfl | (rw [if_pos (by omega)]; exact is_here rfl) | (rw [dif_pos (by omega)]; exact is_here rfl) | exact congrArg (Value.int _) (IntWalk.i64_in _ ⟨by omega, by omega⟩) | skip
      case s8 => exact any_gr (HCo.out _ _ (HTt.out.gr hg))
      case s12 => have z := hg.cell ym3; go_simp; exact rfl
      case fin =>
        intro w1 val hg hH
        simp only [Holds, Is, Nat.zero_add, Nat.reduceAdd] at hH
        obtain ⟨h0, h1, h2, h3, h4, h5, h6, h7, h8, h9, h10, h11, h12, h13, h14, h15, _⟩ := hH
        simp only [List.take_succ_cons, List.take_zero, List.drop_succ_cons, List.drop_zero, putAll, h0, h1, h2, h3, h4, h5, h6, h7, h8, h9, h10, h11, h12, h13, h14, h15, Nat.zero_add, Nat.reduceAdd]
        have HG1 := Lib.hid hg
        clear hg
        go_simp
        go_wp2_with (first
          | (go_at_call 12; go_must (refine (HF.out _ _ (HTt.out.gr HG1.out)).mono ?_); rintro e w4 ⟨ad4, c4v, rfl, o4, g4⟩)
          | (go_at_call 13; go_must (refine (HE.out _ _ (HTt.out.gr (HG1.out.trans g4))).mono ?_); rintro e w5 ⟨rfl, g5⟩)
          | fail)
        have g45 := HG1.out.trans (g4.trans g5)
        have HG5 := Lib.hid g45
        have HO4 := Lib.hid (o4.gr g5).row
        have HR4 := Lib.hid (HRm.out.gr g45)
        replace ym3 := g45.cell ym3
        replace x0 := g45.cell x0
        replace x1 := g45.cell x1
        clear g45 o4
        refine region_any_gr _ [Is (.int .i64 0), Is (.bool true), Is (.bool true), Is (.slice ad4 C.length c4v), Is (.pointer (some ⟨gm, 0, none⟩)), Is (.pointer (some ⟨gm, 0, none⟩)), Is (.pointer (some ⟨gm, 0, none⟩)), Is (.slice (some ⟨bm9, om, none⟩) C.length cm), Is (.bool true), Is (.bool true), Is (.bool true), Is (.string (str ka)), Is (.pointer (some ⟨gm, 0, none⟩)), Is (.pointer (some ⟨gm, 0, none⟩)), Is (.pointer (some ⟨gm, 0, none⟩)), Is (.slice (some ⟨bm9, om, none⟩) C.length cm), Is (.pointer (some ⟨bm9, om, none⟩)), Is (.pointer (some ⟨bm9, om, none⟩)), Is (.pointer (some ⟨bm9, om, none⟩)), Is (.string (str ka)), Is (.bool true), Is (.bool true), Is (.bool true), Is (.string (str kb)), Is (.pointer (some ⟨gm, 0, none⟩)), Is (.pointer (some ⟨gm, 0, none⟩)), Is (.pointer (some ⟨gm, 0, none⟩)), Is (.slice (some ⟨bm9, om, none⟩) C.length cm), Is (.pointer (some ⟨gm, 0, none⟩)), Is (.pointer (some ⟨gm, 0, none⟩)), Is (.pointer (some ⟨gm, 0, none⟩)), Is (.slice (some ⟨bm9, om, none⟩) C.length cm), Is (.int .i64 (C.length : Int)), Is (.int .i64 (m : Int)), Is (.pointer (some ⟨bm9, om + m * 4, none⟩)), Is (.pointer (some ⟨bm9, om + m * 4, none⟩)), Is (.pointer (some ⟨bm9, om + m * 4, none⟩)), Is (.string (str kb)), Is (.bool true), Is (.bool true), Is (.bool true)] (by kernel_rfl) (by kernel_rfl) (by kernel_rfl) rfl rfl ⟨Is.stable _, Is.stable _, Is.stable _, Is.stable _, Is.stable _, Is.stable _, Is.stable _, Is.stable _, Is.stable _, Is.stable _, Is.stable _, Is.stable _, Is.stable _, Is.stable _, Is.stable _, Is.stable _, Is.stable _, Is.stable _, Is.stable _, Is.stable _, Is.stable _, Is.stable _, Is.stable _, Is.stable _, Is.stable _, Is.stable _, Is.stable _, Is.stable _, Is.stable _, Is.stable _, Is.stable _, Is.stable _, Is.stable _, Is.stable _, Is.stable _, Is.stable _, Is.stable _, Is.stable _, Is.stable _, Is.stable _, Is.stable _, trivial⟩ ⟨?s0x1, ?s1x1, ?s2x1, ?s3x1, ?s4x1, ?s5x1, ?s6x1, ?s7x1, ?s8x1, ?s9x1, ?s10x1, ?s11x1, ?s12x1, ?s13x1, ?s14x1, ?s15x1, ?s16x1, ?s17x1, ?s18x1, ?s19x1, ?s20x1, ?s21x1, ?s22x1, ?s23x1, ?s24x1, ?s25x1, ?s26x1, ?s27x1, ?s28x1, ?s29x1, ?s30x1, ?s31x1, ?s32x1, ?s33x1, ?s34x1, ?s35x1, ?s36x1, ?s37x1, ?s38x1, ?s39x1, ?s40x1, trivial⟩ ?finx1
        case' s0x1 | s1x1 | s2x1 | s3x1 | s4x1 | s5x1 | s6x1 | s7x1 | s8x1 | s9x1 | s10x1 | s11x1 | s12x1 | s13x1 | s14x1 | s15x1 | s16x1 | s17x1 | s18x1 | s19x1 | s20x1 | s21x1 | s22x1 | s23x1 | s24x1 | s25x1 | s26x1 | s27x1 | s28x1 | s29x1 | s30x1 | s31x1 | s32x1 | s33x1 | s34x1 | s35x1 | s36x1 | s37x1 | s38x1 | s39x1 | s40x1 =>
          intro ρ wr hρ hg hK
          simp [readsOf, slotsOf, Op.operands, Call.operands, tmpOf, List.filterMap_cons, List.filterMap_nil, KnownAll, knownOf, srcOf, depsOf, dstOf, Region.binds, nth, Is] at hK
          obtain ⟨hc, hf, hgl⟩ := hρ
          try simp only [wantedBy, dstOf, boolOf, nth, List.getD_cons_zero, List.getD_cons_succ, List.getElem?_cons_zero, List.getElem?_cons_succ, Option.bind_some, if_true, hK, BEq.rfl]
          try go_simp
          first | exact rfl | (rw [if_pos (by omega)]; exact is_here rfl) | (rw [dif_pos (by omega)]; exact is_here rfl) | exact congrArg (Value.int _) (IntWalk.i64_in _ ⟨by omega, by omega⟩) | skip
        case s7x1 => have z := hg.cell ym3; go_simp; exact rfl
        case s8x1 => exact any_gr (rCells_same _ _ _ _ _ _ C _ rfl rfl (HO4.out.gr hg) (HR4.out.gr hg) (by omega))
        case s15x1 => have z := hg.cell ym3; go_simp; exact rfl
        case s19x1 => have z := hg.cell x0; go_simp; exact rfl
        case s27x1 => have z := hg.cell ym3; go_simp; exact rfl
        case s31x1 => have z := hg.cell ym3; go_simp; exact rfl
        case s37x1 => have z := hg.cell x1; go_simp; exact rfl
        case finx1 =>
          intro w1 val hg hH
          simp only [Holds, Is, Nat.zero_add, Nat.reduceAdd] at hH
          obtain ⟨h0, h1, h2, h3, h4, h5, h6, h7, h8, h9, h10, h11, h12, h13, h14, h15, h16, h17, h18, h19, h20, h21, h22, h23, h24, h25, h26, h27, h28, h29, h30, h31, h32, h33, h34, h35, h36, h37, h38, h39, h40, _⟩ := hH
          simp only [List.take_succ_cons, List.take_zero, List.drop_succ_cons, List.drop_zero, putAll, h0, h1, h2, h3, h4, h5, h6, h7, h8, h9, h10, h11, h12, h13, h14, h15, h16, h17, h18, h19, h20, h21, h22, h23, h24, h25, h26, h27, h28, h29, h30, h31, h32, h33, h34, h35, h36, h37, h38, h39, h40, Nat.zero_add, Nat.reduceAdd]
          have HG6 := Lib.hid (HG5.out.trans hg)
          clear hg
          go_simp
          go_wp2
          go_ret
          exact ⟨rfl, ((g1.trans g2).trans g3).trans HG6.out⟩
theorem TableOpens_len (ad : Option Addr) (len cap : Nat) (b : List UInt8) (w : World) (hl : b.length = len) (hc : len ≤ cap) (hm : cap ≤ maxLen) (hb : Bytes w ad b) :
    Calls Tryz.prog 4 #[.slice ad len cap] w fun e w' => e = .returned (.bool true) ∧ Gr w w' := by
  subst hl
  exact TableOpens_any ad cap b w hc hm hb
end Go.Proofs.YtlfbelocdpboeaaGreatDoor
