/- Layer 5 (ikey): IkeyOrders answers true. -/
import Derived.Test.YtnjnehegfdimaaaDoorIkeySort
namespace Go.Proofs.YtnjnehegfdimaaaDoor
set_option linter.unusedVariables false
set_option linter.unusedSimpArgs false
open Go.RowKit Ikey Varint
open Go.Op (bytesLess)
/-- Sortable's bytes, and its error -/
def sortG (k : List UInt8) (s d : Int) : List UInt8 × Int := if okV k s d = true then (sortF k s.toNat d.toNat, 0) else ([], 1)
theorem nat_of {k : List UInt8} {s d : Int} (h : okV k s d = true) : ((s.toNat : Nat) : Int) = s ∧ ((d.toNat : Nat) : Int) = d := by
  obtain ⟨_, _, h3, _, h5⟩ := okV_of h
  omega
theorem sortG_yes {k : List UInt8} {s d : Int} (h : okV k s d = true) : sortG k s d = (sortF k s.toNat d.toNat, 0) := by unfold sortG; rw [if_pos h]
theorem sortG_no {k : List UInt8} {s d : Int} (h : okV k s d = false) : sortG k s d = ([], 1) := by unfold sortG; rw [if_neg (by rw [h]; decide)]
theorem Sortable_any (k : List UInt8) (s d : Int) (w : World) : Calls Tryd.prog 8 #[ver k s d] w (RetBI 5 w (sortG k s d).1 (sortG k s d).2) := by
  cases h : okV k s d with
  | false => rw [sortG_no h]; exact Sortable_no k s d w h
  | true =>
    rw [sortG_yes h]
    obtain ⟨e1, e2⟩ := nat_of h
    have := Sortable_yes k s.toNat d.toNat w (by rw [e1, e2]; exact h)
    rw [e1, e2] at this
    exact this
theorem sortG_less {k k' : List UInt8} {s d s' d' : Int} (h : okV k s d = true) (h' : okV k' s' d' = true) : bytesLess (sortG k s d).1 (sortG k' s' d').1 = lessF k s d k' s' d' := by
  obtain ⟨e1, e2⟩ := nat_of h
  obtain ⟨e3, e4⟩ := nat_of h'
  rw [sortG_yes h, sortG_yes h']
  have := sort_less (s := s.toNat) (d := d.toNat) (s' := s'.toNat) (d' := d'.toNat) (by rw [e1, e2]; exact h) (by rw [e3, e4]; exact h')
  rw [e1, e2, e3, e4] at this
  exact this
theorem sortG_inj {k k' : List UInt8} {s d s' d' : Int} (h : okV k s d = true) (h' : okV k' s' d' = true) (e : (sortG k s d).1 = (sortG k' s' d').1) : k = k' ∧ s = s' ∧ d = d' := by
  obtain ⟨e1, e2⟩ := nat_of h
  obtain ⟨e3, e4⟩ := nat_of h'
  rw [sortG_yes h, sortG_yes h'] at e
  obtain ⟨a, b, c⟩ := sort_inj (s := s.toNat) (d := d.toNat) (s' := s'.toNat) (d' := d'.toNat) (by rw [e1, e2]; exact h) (by rw [e3, e4]; exact h') e
  exact ⟨a, by omega, by omega⟩
set_option maxRecDepth 100000 in
set_option maxHeartbeats 4000000 in
theorem IkeyOrders_any (k k' : List UInt8) (s d s' d' : Int) (w : World) :
    Calls Tryd.prog 3 #[ver k s d, ver k' s' d'] w fun e w' => e = .returned (.bool true) ∧ Gr w w' := by
  have HSA := Lib.hid (fun w => Sortable_any k s d w)
  have HSB := Lib.hid (fun w => Sortable_any k' s' d' w)
  have HL := Lib.hid (fun w => Less_any k k' s d s' d' w)
  have HL2 := Lib.hid (fun w => Less_any k' k s' d' s d w)
  have HR := Lib.hid (fun w => rLess_any k k' s d s' d' w)
  unfold ver at *
  have T0 : RowKit.Hid True := trivial
  cases ho : okV k s d with
  | false =>
    rw [sortG_no ho] at HSA
    clear ho
    generalize (sortG k' s' d').1 = B at *
    generalize (sortG k' s' d').2 = eB at *
    generalize lessF k s d k' s' d' = L at *
    go_enter Tryd.func3, Tryd.ntmps3
    go_wp2_with (first
      | (go_at_call 7; (with_reducible refine (keyed_any _).mono ?_); rintro e w1 ⟨rfl, g1⟩; obtain ⟨a0, a1, a2, _⟩ := (Blk.of2a g1).three; have G1 := g1)
      | (go_at_call 8; clear T0; (with_reducible refine (HSA.out _).mono ?_); rintro e w2 ⟨ad2, c2, rfl, o2, g2⟩; have G2 := G1.trans g2; obtain ⟨b0, b1, b2, _⟩ := (Blk.of2b G2).three; have T1 : RowKit.Hid True := trivial)
      | (go_at_call 8; clear T1; (with_reducible refine (HSB.out _).mono ?_); rintro e w3 ⟨ad3, c3, rfl, o3, g3⟩; have G3 := G2.trans g3)
      | fail)
    refine region_any_gr _ [Is (.agg #[.string (str k), .int .i64 s, .int .i64 d]), Is (.agg #[.string (str k'), .int .i64 s', .int .i64 d']), Is (.bool L), Is (.agg #[.string (str k), .int .i64 s, .int .i64 d]), Is (.agg #[.string (str k'), .int .i64 s', .int .i64 d']), Is (.bool L), Is (.bool false)] (by kernel_rfl) (by kernel_rfl) (by kernel_rfl) rfl rfl ⟨Is.stable _, Is.stable _, Is.stable _, Is.stable _, Is.stable _, Is.stable _, Is.stable _, trivial⟩ ⟨?s0, ?s1, ?s2, ?s3, ?s4, ?s5, ?s6, trivial⟩ ?fin
    case' s0 | s1 | s2 | s3 | s4 | s5 | s6 =>
      intro ρ wr hρ hg hK
      simp [readsOf, slotsOf, Op.operands, Call.operands, tmpOf, List.filterMap_cons, List.filterMap_nil, KnownAll, knownOf, srcOf, depsOf, dstOf, Region.binds, nth, Is] at hK
      obtain ⟨hc, hf, hgl⟩ := hρ
      try simp only [wantedBy, dstOf, boolOf, nth, List.getD_cons_zero, List.getD_cons_succ, List.getElem?_cons_zero, List.getElem?_cons_succ, Option.bind_some, if_true, hK, BEq.rfl]
      try go_simp
      first | exact rfl | (rw [if_pos (by omega)]; exact is_here rfl) | (rw [dif_pos (by omega)]; exact is_here rfl) | exact congrArg (Value.int _) (IntWalk.i64_in _ ⟨by omega, by omega⟩) | skip
    case s0 | s3 =>
      obtain ⟨x0, x1, x2, _⟩ := (Blk.of2a (G3.trans hg)).three
      go_simp
      exact rfl
    case s1 | s4 =>
      obtain ⟨x0, x1, x2, _⟩ := (Blk.of2b (G3.trans hg)).three
      go_simp
      exact rfl
    case s2 => exact any_gr (HL.out _)
    case s5 => exact any_gr (HR.out _)
    case fin =>
      intro w1 val hg hH
      simp only [Holds, Is, Nat.zero_add, Nat.reduceAdd] at hH
      obtain ⟨h0, h1, h2, h3, h4, h5, h6, _⟩ := hH
      simp only [List.take_succ_cons, List.take_zero, List.drop_succ_cons, List.drop_zero, putAll, h0, h1, h2, h3, h4, h5, h6, Nat.zero_add, Nat.reduceAdd]
      go_simp
      go_wp2
      go_ret
      exact ⟨rfl, ((Gr.alloc _ _).trans (Gr.alloc _ _)).trans (G3.trans hg)⟩
  | true =>
    cases ho' : okV k' s' d' with
    | false =>
      rw [sortG_yes ho] at HSA
      rw [sortG_no ho'] at HSB
      clear ho ho'
      generalize sortF k s.toNat d.toNat = A at *
      generalize lessF k s d k' s' d' = L at *
      go_enter Tryd.func3, Tryd.ntmps3
      go_wp2_with (first
        | (go_at_call 7; (with_reducible refine (keyed_any _).mono ?_); rintro e w1 ⟨rfl, g1⟩; obtain ⟨a0, a1, a2, _⟩ := (Blk.of2a g1).three; have G1 := g1)
        | (go_at_call 8; clear T0; (with_reducible refine (HSA.out _).mono ?_); rintro e w2 ⟨ad2, c2, rfl, o2, g2⟩; have G2 := G1.trans g2; obtain ⟨b0, b1, b2, _⟩ := (Blk.of2b G2).three; have T1 : RowKit.Hid True := trivial)
        | (go_at_call 8; clear T1; (with_reducible refine (HSB.out _).mono ?_); rintro e w3 ⟨ad3, c3, rfl, o3, g3⟩; have G3 := G2.trans g3)
        | fail)
      refine region_any_gr _ [Is (.agg #[.string (str k), .int .i64 s, .int .i64 d]), Is (.agg #[.string (str k'), .int .i64 s', .int .i64 d']), Is (.bool L), Is (.agg #[.string (str k), .int .i64 s, .int .i64 d]), Is (.agg #[.string (str k'), .int .i64 s', .int .i64 d']), Is (.bool L), Is (.bool false)] (by kernel_rfl) (by kernel_rfl) (by kernel_rfl) rfl rfl ⟨Is.stable _, Is.stable _, Is.stable _, Is.stable _, Is.stable _, Is.stable _, Is.stable _, trivial⟩ ⟨?s0x1, ?s1x1, ?s2x1, ?s3x1, ?s4x1, ?s5x1, ?s6x1, trivial⟩ ?finx1
      case' s0x1 | s1x1 | s2x1 | s3x1 | s4x1 | s5x1 | s6x1 =>
        intro ρ wr hρ hg hK
        simp [readsOf, slotsOf, Op.operands, Call.operands, tmpOf, List.filterMap_cons, List.filterMap_nil, KnownAll, knownOf, srcOf, depsOf, dstOf, Region.binds, nth, Is] at hK
        obtain ⟨hc, hf, hgl⟩ := hρ
        try simp only [wantedBy, dstOf, boolOf, nth, List.getD_cons_zero, List.getD_cons_succ, List.getElem?_cons_zero, List.getElem?_cons_succ, Option.bind_some, if_true, hK, BEq.rfl]
        try go_simp
        first | exact rfl | (rw [if_pos (by omega)]; exact is_here rfl) | (rw [dif_pos (by omega)]; exact is_here rfl) | exact congrArg (Value.int _) (IntWalk.i64_in _ ⟨by omega, by omega⟩) | skip
      case s0x1 | s3x1 =>
        obtain ⟨x0, x1, x2, _⟩ := (Blk.of2a (G3.trans hg)).three
        go_simp
        exact rfl
      case s1x1 | s4x1 =>
        obtain ⟨x0, x1, x2, _⟩ := (Blk.of2b (G3.trans hg)).three
        go_simp
        exact rfl
      case s2x1 => exact any_gr (HL.out _)
      case s5x1 => exact any_gr (HR.out _)
      case finx1 =>
        intro w1 val hg hH
        simp only [Holds, Is, Nat.zero_add, Nat.reduceAdd] at hH
        obtain ⟨h0, h1, h2, h3, h4, h5, h6, _⟩ := hH
        simp only [List.take_succ_cons, List.take_zero, List.drop_succ_cons, List.drop_zero, putAll, h0, h1, h2, h3, h4, h5, h6, Nat.zero_add, Nat.reduceAdd]
        go_simp
        go_wp2
        go_ret
        exact ⟨rfl, ((Gr.alloc _ _).trans (Gr.alloc _ _)).trans (G3.trans hg)⟩
    | true =>
      have hAB := sortG_less ho ho'
      by_cases heq : k = k' ∧ s = s' ∧ d = d'
      · obtain ⟨rfl, rfl, rfl⟩ := heq
        rw [less_irr] at HL HL2 HR
        rw [show (sortG k s d).2 = 0 by rw [sortG_yes ho]] at HSA HSB
        clear ho ho' hAB
        generalize (sortG k s d).1 = A at *
        go_enter Tryd.func3, Tryd.ntmps3
        go_wp2_with (first
          | (go_at_call 7; (with_reducible refine (keyed_any _).mono ?_); rintro e w1 ⟨rfl, g1⟩; obtain ⟨a0, a1, a2, _⟩ := (Blk.of2a g1).three; have G1 := g1)
          | (go_at_call 8; clear T0; (with_reducible refine (HSA.out _).mono ?_); rintro e w2 ⟨ad2, c2, rfl, o2, g2⟩; have G2 := G1.trans g2; obtain ⟨b0, b1, b2, _⟩ := (Blk.of2b G2).three; have T1 : RowKit.Hid True := trivial)
          | (go_at_call 8; clear T1; (with_reducible refine (HSB.out _).mono ?_); rintro e w3 ⟨ad3, c3, rfl, o3, g3⟩; have G3 := G2.trans g3)
          | fail)
        refine region_any_gr _ [Is (.agg #[.string (str k), .int .i64 s, .int .i64 d]), Is (.agg #[.string (str k), .int .i64 s, .int .i64 d]), Is (.bool false), Is (.agg #[.string (str k), .int .i64 s, .int .i64 d]), Is (.agg #[.string (str k), .int .i64 s, .int .i64 d]), Is (.bool false), Is (.bool false)] (by kernel_rfl) (by kernel_rfl) (by kernel_rfl) rfl rfl ⟨Is.stable _, Is.stable _, Is.stable _, Is.stable _, Is.stable _, Is.stable _, Is.stable _, trivial⟩ ⟨?s0x2, ?s1x2, ?s2x2, ?s3x2, ?s4x2, ?s5x2, ?s6x2, trivial⟩ ?finx2
        case' s0x2 | s1x2 | s2x2 | s3x2 | s4x2 | s5x2 | s6x2 =>
          intro ρ wr hρ hg hK
          simp [readsOf, slotsOf, Op.operands, Call.operands, tmpOf, List.filterMap_cons, List.filterMap_nil, KnownAll, knownOf, srcOf, depsOf, dstOf, Region.binds, nth, Is] at hK
          obtain ⟨hc, hf, hgl⟩ := hρ
          try simp only [wantedBy, dstOf, boolOf, nth, List.getD_cons_zero, List.getD_cons_succ, List.getElem?_cons_zero, List.getElem?_cons_succ, Option.bind_some, if_true, hK, BEq.rfl]
          try go_simp
          first | exact rfl | (rw [if_pos (by omega)]; exact is_here rfl) | (rw [dif_pos (by omega)]; exact is_here rfl) | exact congrArg (Value.int _) (IntWalk.i64_in _ ⟨by omega, by omega⟩) | skip
        case s0x2 | s3x2 =>
          obtain ⟨x0, x1, x2, _⟩ := (Blk.of2a (G3.trans hg)).three
          go_simp
          exact rfl
        case s1x2 | s4x2 =>
          obtain ⟨x0, x1, x2, _⟩ := (Blk.of2b (G3.trans hg)).three
          go_simp
          exact rfl
        case s2x2 => exact any_gr (HL.out _)
        case s5x2 => exact any_gr (HR.out _)
        case finx2 =>
          intro w1 val hg hH
          simp only [Holds, Is, Nat.zero_add, Nat.reduceAdd] at hH
          obtain ⟨h0, h1, h2, h3, h4, h5, h6, _⟩ := hH
          simp only [List.take_succ_cons, List.take_zero, List.drop_succ_cons, List.drop_zero, putAll, h0, h1, h2, h3, h4, h5, h6, Nat.zero_add, Nat.reduceAdd]
          have G4 := G3.trans hg
          have HOA := Lib.hid ((o2.gr g3).gr hg)
          have HOB := Lib.hid (o3.gr hg)
          clear o2 o3 hg
          go_simp
          obtain ⟨x0, x1, x2, _⟩ := (Blk.of2a G4).three
          obtain ⟨y0, y1, y2, _⟩ := (Blk.of2b G4).three
          go_wp2_with (first
            | (go_at_call 9; (with_reducible refine (HL.out _).mono ?_); rintro e w5 ⟨rfl, g5⟩; have G5 := G4.trans g5)
            | fail)
          have HBA := Lib.hid (HOA.out.gr g5).bytes
          have HBB := Lib.hid (HOB.out.gr g5).bytes
          clear x0 x1 x2 y0 y1 y2
          refine region_any_gr _ [Is (.bool false), Is (.agg #[.string (str k), .int .i64 s, .int .i64 d]), Is (.agg #[.string (str k), .int .i64 s, .int .i64 d]), Is (.bool false), Is (.bool true), Is (.bool true), Is (.bool false), Is (.slice ad2 A.length c2), Is (.string (str A)), Is (.slice ad3 A.length c3), Is (.string (str A)), Is (.bool false), Is (.bool true), Is (.bool true), Is (.bool true), Is (.agg #[.string (str k), .int .i64 s, .int .i64 d]), Is (.agg #[.string (str k), .int .i64 s, .int .i64 d]), Is (.bool true), Is (.slice ad2 A.length c2), Is (.string (str A)), Is (.slice ad3 A.length c3), Is (.string (str A)), Is (.bool true), Is (.bool true), Is (.bool true), Is (.bool true), Is (.agg #[.string (str k), .int .i64 s, .int .i64 d]), Is (.agg #[.string (str k), .int .i64 s, .int .i64 d]), Is (.bool true), Is (.bool true), Is ?r30x3, Is ?r31x3, Is ?r32x3, Is ?r33x3, Is ?r34x3, Is (.bool true), Is (.bool true), Is (.bool true), Is (.agg #[.string (str k), .int .i64 s, .int .i64 d]), Is (.agg #[.string (str k), .int .i64 s, .int .i64 d]), Is (.bool false), Is (.bool false), Is (.bool false), Is (.bool true), Is (.bool true), Is (.bool true), Is (.bool true)] (by kernel_rfl) (by kernel_rfl) (by kernel_rfl) rfl rfl ⟨Is.stable _, Is.stable _, Is.stable _, Is.stable _, Is.stable _, Is.stable _, Is.stable _, Is.stable _, Is.stable _, Is.stable _, Is.stable _, Is.stable _, Is.stable _, Is.stable _, Is.stable _, Is.stable _, Is.stable _, Is.stable _, Is.stable _, Is.stable _, Is.stable _, Is.stable _, Is.stable _, Is.stable _, Is.stable _, Is.stable _, Is.stable _, Is.stable _, Is.stable _, Is.stable _, Is.stable _, Is.stable _, Is.stable _, Is.stable _, Is.stable _, Is.stable _, Is.stable _, Is.stable _, Is.stable _, Is.stable _, Is.stable _, Is.stable _, Is.stable _, Is.stable _, Is.stable _, Is.stable _, Is.stable _, trivial⟩ ⟨?s0x3, ?s1x3, ?s2x3, ?s3x3, ?s4x3, ?s5x3, ?s6x3, ?s7x3, ?s8x3, ?s9x3, ?s10x3, ?s11x3, ?s12x3, ?s13x3, ?s14x3, ?s15x3, ?s16x3, ?s17x3, ?s18x3, ?s19x3, ?s20x3, ?s21x3, ?s22x3, ?s23x3, ?s24x3, ?s25x3, ?s26x3, ?s27x3, ?s28x3, ?s29x3, ?s30x3, ?s31x3, ?s32x3, ?s33x3, ?s34x3, ?s35x3, ?s36x3, ?s37x3, ?s38x3, ?s39x3, ?s40x3, ?s41x3, ?s42x3, ?s43x3, ?s44x3, ?s45x3, ?s46x3, trivial⟩ ?finx3
          case' s0x3 | s1x3 | s2x3 | s3x3 | s4x3 | s5x3 | s6x3 | s7x3 | s8x3 | s9x3 | s10x3 | s11x3 | s12x3 | s13x3 | s14x3 | s15x3 | s16x3 | s17x3 | s18x3 | s19x3 | s20x3 | s21x3 | s22x3 | s23x3 | s24x3 | s25x3 | s26x3 | s27x3 | s28x3 | s29x3 | s30x3 | s31x3 | s32x3 | s33x3 | s34x3 | s35x3 | s36x3 | s37x3 | s38x3 | s39x3 | s40x3 | s41x3 | s42x3 | s43x3 | s44x3 | s45x3 | s46x3 =>
            intro ρ wr hρ hg hK
            simp [readsOf, slotsOf, Op.operands, Call.operands, tmpOf, List.filterMap_cons, List.filterMap_nil, KnownAll, knownOf, srcOf, depsOf, dstOf, Region.binds, nth, Is] at hK
            obtain ⟨hc, hf, hgl⟩ := hρ
            try simp only [wantedBy, dstOf, boolOf, nth, List.getD_cons_zero, List.getD_cons_succ, List.getElem?_cons_zero, List.getElem?_cons_succ, Option.bind_some, if_true, hK, BEq.rfl]
            try go_simp
            first | exact rfl | (rw [if_pos (by omega)]; exact is_here rfl) | (rw [dif_pos (by omega)]; exact is_here rfl) | exact congrArg (Value.int _) (IntWalk.i64_in _ ⟨by omega, by omega⟩) | skip
          case s1x3 | s15x3 | s26x3 | s38x3 =>
            obtain ⟨x0, x1, x2, _⟩ := (Blk.of2a (G5.trans hg)).three
            go_simp
            exact rfl
          case s2x3 | s16x3 | s27x3 | s39x3 =>
            obtain ⟨x0, x1, x2, _⟩ := (Blk.of2b (G5.trans hg)).three
            go_simp
            exact rfl
          case s3x3 => exact any_gr (HR.out _)
          case s8x3 | s19x3 =>
            rw [run_string Tryd.underlying25 Tryd.underlying5 Tryd.underlying9 rfl (HBA.out.gr hg)]
            exact is_here rfl
          case s10x3 | s21x3 =>
            rw [run_string Tryd.underlying25 Tryd.underlying5 Tryd.underlying9 rfl (HBB.out.gr hg)]
            exact is_here rfl
          case s11x3 => rw [bl_irr]; exact rfl
          case finx3 =>
            intro w1 val hg hH
            simp only [Holds, Is, Nat.zero_add, Nat.reduceAdd] at hH
            obtain ⟨h0, h1, h2, h3, h4, h5, h6, h7, h8, h9, h10, h11, h12, h13, h14, h15, h16, h17, h18, h19, h20, h21, h22, h23, h24, h25, h26, h27, h28, h29, h30, h31, h32, h33, h34, h35, h36, h37, h38, h39, h40, h41, h42, h43, h44, h45, h46, _⟩ := hH
            simp only [List.take_succ_cons, List.take_zero, List.drop_succ_cons, List.drop_zero, putAll, h0, h1, h2, h3, h4, h5, h6, h7, h8, h9, h10, h11, h12, h13, h14, h15, h16, h17, h18, h19, h20, h21, h22, h23, h24, h25, h26, h27, h28, h29, h30, h31, h32, h33, h34, h35, h36, h37, h38, h39, h40, h41, h42, h43, h44, h45, h46, Nat.zero_add, Nat.reduceAdd]
            go_simp
            go_wp2
            go_ret
            exact ⟨rfl, ((Gr.alloc _ _).trans (Gr.alloc _ _)).trans (G5.trans hg)⟩
      · have hne : (sortG k s d).1 ≠ (sortG k' s' d').1 := fun e => heq (sortG_inj ho ho' e)
        have hneb : ((sortG k s d).1 == (sortG k' s' d').1) = false := by rw [beq_eq_false_iff_ne]; exact hne
        rw [show (sortG k s d).2 = 0 by rw [sortG_yes ho]] at HSA
        rw [show (sortG k' s' d').2 = 0 by rw [sortG_yes ho']] at HSB
        rw [less_tri (fun h => heq ⟨h.1.symm, h.2.1.symm, h.2.2.symm⟩)] at HL2
        have HEQ := Lib.hid heq
        clear ho ho' heq hne
        generalize (sortG k s d).1 = A at *
        generalize (sortG k' s' d').1 = B at *
        generalize lessF k s d k' s' d' = L at *
        have HAB := Lib.hid hAB
        clear hAB
        go_enter Tryd.func3, Tryd.ntmps3
        go_wp2_with (first
          | (go_at_call 7; (with_reducible refine (keyed_any _).mono ?_); rintro e w1 ⟨rfl, g1⟩; obtain ⟨a0, a1, a2, _⟩ := (Blk.of2a g1).three; have G1 := g1)
          | (go_at_call 8; clear T0; (with_reducible refine (HSA.out _).mono ?_); rintro e w2 ⟨ad2, c2, rfl, o2, g2⟩; have G2 := G1.trans g2; obtain ⟨b0, b1, b2, _⟩ := (Blk.of2b G2).three; have T1 : RowKit.Hid True := trivial)
          | (go_at_call 8; clear T1; (with_reducible refine (HSB.out _).mono ?_); rintro e w3 ⟨ad3, c3, rfl, o3, g3⟩; have G3 := G2.trans g3)
          | fail)
        refine region_any_gr _ [Is (.agg #[.string (str k), .int .i64 s, .int .i64 d]), Is (.agg #[.string (str k'), .int .i64 s', .int .i64 d']), Is (.bool L), Is (.agg #[.string (str k), .int .i64 s, .int .i64 d]), Is (.agg #[.string (str k'), .int .i64 s', .int .i64 d']), Is (.bool L), Is (.bool false)] (by kernel_rfl) (by kernel_rfl) (by kernel_rfl) rfl rfl ⟨Is.stable _, Is.stable _, Is.stable _, Is.stable _, Is.stable _, Is.stable _, Is.stable _, trivial⟩ ⟨?s0x4, ?s1x4, ?s2x4, ?s3x4, ?s4x4, ?s5x4, ?s6x4, trivial⟩ ?finx4
        case' s0x4 | s1x4 | s2x4 | s3x4 | s4x4 | s5x4 | s6x4 =>
          intro ρ wr hρ hg hK
          simp [readsOf, slotsOf, Op.operands, Call.operands, tmpOf, List.filterMap_cons, List.filterMap_nil, KnownAll, knownOf, srcOf, depsOf, dstOf, Region.binds, nth, Is] at hK
          obtain ⟨hc, hf, hgl⟩ := hρ
          try simp only [wantedBy, dstOf, boolOf, nth, List.getD_cons_zero, List.getD_cons_succ, List.getElem?_cons_zero, List.getElem?_cons_succ, Option.bind_some, if_true, hK, BEq.rfl]
          try go_simp
          first | exact rfl | (rw [if_pos (by omega)]; exact is_here rfl) | (rw [dif_pos (by omega)]; exact is_here rfl) | exact congrArg (Value.int _) (IntWalk.i64_in _ ⟨by omega, by omega⟩) | skip
        case s0x4 | s3x4 =>
          obtain ⟨x0, x1, x2, _⟩ := (Blk.of2a (G3.trans hg)).three
          go_simp
          exact rfl
        case s1x4 | s4x4 =>
          obtain ⟨x0, x1, x2, _⟩ := (Blk.of2b (G3.trans hg)).three
          go_simp
          exact rfl
        case s2x4 => exact any_gr (HL.out _)
        case s5x4 => exact any_gr (HR.out _)
        case finx4 =>
          intro w1 val hg hH
          simp only [Holds, Is, Nat.zero_add, Nat.reduceAdd] at hH
          obtain ⟨h0, h1, h2, h3, h4, h5, h6, _⟩ := hH
          simp only [List.take_succ_cons, List.take_zero, List.drop_succ_cons, List.drop_zero, putAll, h0, h1, h2, h3, h4, h5, h6, Nat.zero_add, Nat.reduceAdd]
          have G4 := G3.trans hg
          have HOA := Lib.hid ((o2.gr g3).gr hg)
          have HOB := Lib.hid (o3.gr hg)
          clear o2 o3 hg
          go_simp
          obtain ⟨x0, x1, x2, _⟩ := (Blk.of2a G4).three
          obtain ⟨y0, y1, y2, _⟩ := (Blk.of2b G4).three
          go_wp2_with (first
            | (go_at_call 9; (with_reducible refine (HL.out _).mono ?_); rintro e w5 ⟨rfl, g5⟩; have G5 := G4.trans g5)
            | fail)
          have HBA := Lib.hid (HOA.out.gr g5).bytes
          have HBB := Lib.hid (HOB.out.gr g5).bytes
          clear x0 x1 x2 y0 y1 y2
          refine region_any_gr _ [Is (.bool L), Is (.agg #[.string (str k), .int .i64 s, .int .i64 d]), Is (.agg #[.string (str k'), .int .i64 s', .int .i64 d']), Is (.bool L), Is (.bool true), Is (.bool true), Is (.bool L), Is (.slice ad2 A.length c2), Is (.string (str A)), Is (.slice ad3 B.length c3), Is (.string (str B)), Is (.bool L), Is (.bool true), Is (.bool true), Is (.bool true), Is (.agg #[.string (str k), .int .i64 s, .int .i64 d]), Is (.agg #[.string (str k'), .int .i64 s', .int .i64 d']), Is (.bool false), Is (.slice ad2 A.length c2), Is (.string (str A)), Is (.slice ad3 B.length c3), Is (.string (str B)), Is (.bool false), Is (.bool true), Is (.bool true), Is (.bool true), Is (.agg #[.string (str k), .int .i64 s, .int .i64 d]), Is (.agg #[.string (str k'), .int .i64 s', .int .i64 d']), Is (.bool false), Is (.bool false), Is (.bool L), Is (.agg #[.string (str k'), .int .i64 s', .int .i64 d']), Is (.agg #[.string (str k), .int .i64 s, .int .i64 d]), Is (.bool (!L)), Is (.bool true), Is (.bool true), Is (.bool true), Is (.bool true), Is (.agg #[.string (str k), .int .i64 s, .int .i64 d]), Is (.agg #[.string (str k'), .int .i64 s', .int .i64 d']), Is (.bool true), Is (.bool true), Is ?r42x5, Is ?r43x5, Is (.bool true), Is (.bool true), Is (.bool true)] (by kernel_rfl) (by kernel_rfl) (by kernel_rfl) rfl rfl ⟨Is.stable _, Is.stable _, Is.stable _, Is.stable _, Is.stable _, Is.stable _, Is.stable _, Is.stable _, Is.stable _, Is.stable _, Is.stable _, Is.stable _, Is.stable _, Is.stable _, Is.stable _, Is.stable _, Is.stable _, Is.stable _, Is.stable _, Is.stable _, Is.stable _, Is.stable _, Is.stable _, Is.stable _, Is.stable _, Is.stable _, Is.stable _, Is.stable _, Is.stable _, Is.stable _, Is.stable _, Is.stable _, Is.stable _, Is.stable _, Is.stable _, Is.stable _, Is.stable _, Is.stable _, Is.stable _, Is.stable _, Is.stable _, Is.stable _, Is.stable _, Is.stable _, Is.stable _, Is.stable _, Is.stable _, trivial⟩ ⟨?s0x5, ?s1x5, ?s2x5, ?s3x5, ?s4x5, ?s5x5, ?s6x5, ?s7x5, ?s8x5, ?s9x5, ?s10x5, ?s11x5, ?s12x5, ?s13x5, ?s14x5, ?s15x5, ?s16x5, ?s17x5, ?s18x5, ?s19x5, ?s20x5, ?s21x5, ?s22x5, ?s23x5, ?s24x5, ?s25x5, ?s26x5, ?s27x5, ?s28x5, ?s29x5, ?s30x5, ?s31x5, ?s32x5, ?s33x5, ?s34x5, ?s35x5, ?s36x5, ?s37x5, ?s38x5, ?s39x5, ?s40x5, ?s41x5, ?s42x5, ?s43x5, ?s44x5, ?s45x5, ?s46x5, trivial⟩ ?finx5
          case' s0x5 | s1x5 | s2x5 | s3x5 | s4x5 | s5x5 | s6x5 | s7x5 | s8x5 | s9x5 | s10x5 | s11x5 | s12x5 | s13x5 | s14x5 | s15x5 | s16x5 | s17x5 | s18x5 | s19x5 | s20x5 | s21x5 | s22x5 | s23x5 | s24x5 | s25x5 | s26x5 | s27x5 | s28x5 | s29x5 | s30x5 | s31x5 | s32x5 | s33x5 | s34x5 | s35x5 | s36x5 | s37x5 | s38x5 | s39x5 | s40x5 | s41x5 | s42x5 | s43x5 | s44x5 | s45x5 | s46x5 =>
            intro ρ wr hρ hg hK
            simp [readsOf, slotsOf, Op.operands, Call.operands, tmpOf, List.filterMap_cons, List.filterMap_nil, KnownAll, knownOf, srcOf, depsOf, dstOf, Region.binds, nth, Is] at hK
            obtain ⟨hc, hf, hgl⟩ := hρ
            try simp only [wantedBy, dstOf, boolOf, nth, List.getD_cons_zero, List.getD_cons_succ, List.getElem?_cons_zero, List.getElem?_cons_succ, Option.bind_some, if_true, hK, BEq.rfl]
            try go_simp
            first | exact rfl | (rw [if_pos (by omega)]; exact is_here rfl) | (rw [dif_pos (by omega)]; exact is_here rfl) | exact congrArg (Value.int _) (IntWalk.i64_in _ ⟨by omega, by omega⟩) | skip
          case s1x5 | s15x5 | s26x5 | s38x5 | s32x5 =>
            obtain ⟨x0, x1, x2, _⟩ := (Blk.of2a (G5.trans hg)).three
            go_simp
            exact rfl
          case s2x5 | s16x5 | s27x5 | s39x5 | s31x5 =>
            obtain ⟨x0, x1, x2, _⟩ := (Blk.of2b (G5.trans hg)).three
            go_simp
            exact rfl
          case s3x5 => exact any_gr (HR.out _)
          case s33x5 => exact any_gr (HL2.out _)
          case s8x5 | s19x5 =>
            rw [run_string Tryd.underlying25 Tryd.underlying5 Tryd.underlying9 rfl (HBA.out.gr hg)]
            exact is_here rfl
          case s10x5 | s21x5 =>
            rw [run_string Tryd.underlying25 Tryd.underlying5 Tryd.underlying9 rfl (HBB.out.gr hg)]
            exact is_here rfl
          case s11x5 => rw [HAB.out]; exact rfl
          case s17x5 | s28x5 | s40x5 =>
            by_cases h1 : k = k'
            · rw [if_pos h1]
              by_cases h2 : s = s'
              · rw [if_pos h2, if_neg (fun h3 => HEQ.out ⟨h1, h2, h3⟩)]; exact is_here rfl
              · rw [if_neg h2]; exact is_here rfl
            · rw [if_neg h1]; exact is_here rfl
          case finx5 =>
            intro w1 val hg hH
            simp only [Holds, Is, Nat.zero_add, Nat.reduceAdd] at hH
            obtain ⟨h0, h1, h2, h3, h4, h5, h6, h7, h8, h9, h10, h11, h12, h13, h14, h15, h16, h17, h18, h19, h20, h21, h22, h23, h24, h25, h26, h27, h28, h29, h30, h31, h32, h33, h34, h35, h36, h37, h38, h39, h40, h41, h42, h43, h44, h45, h46, _⟩ := hH
            simp only [List.take_succ_cons, List.take_zero, List.drop_succ_cons, List.drop_zero, putAll, h0, h1, h2, h3, h4, h5, h6, h7, h8, h9, h10, h11, h12, h13, h14, h15, h16, h17, h18, h19, h20, h21, h22, h23, h24, h25, h26, h27, h28, h29, h30, h31, h32, h33, h34, h35, h36, h37, h38, h39, h40, h41, h42, h43, h44, h45, h46, Nat.zero_add, Nat.reduceAdd]
            go_simp
            go_wp2
            go_ret
            exact ⟨rfl, ((Gr.alloc _ _).trans (Gr.alloc _ _)).trans (G5.trans hg)⟩
end Go.Proofs.YtnjnehegfdimaaaDoor
