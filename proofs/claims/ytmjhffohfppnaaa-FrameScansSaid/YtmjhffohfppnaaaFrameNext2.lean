/- Layer 8 (frame): the reference's next, where the piece's end lies within the bytes. -/
import Derived.Test.YtmjhffohfppnaaaFrameNext
namespace Go.Proofs.Ytmjhffohfppnaaa
set_option linter.unusedVariables false
set_option linter.unusedSimpArgs false
open Go.RowKit Fr
set_option maxRecDepth 100000 in
set_option maxHeartbeats 1200000 in
theorem next_fit (l : List UInt8) (a p : Nat) (w : World) (hl : l.length ≤ 100000000) (ha : a ≤ l.length) (hp : p ≤ a + 6) (hA : At_ a p) (h7 : p + 7 ≤ l.length) (n : Nat) (h4 : p + 4 < l.length) (h5 : p + 5 < l.length) (h6 : p + 6 < l.length) (k : UInt8) (hk6 : l[p + 6]'h6 = k) (hn : ((l[p + 4]'h4).toNat : Int) + 256 * ((l[p + 5]'h5).toNat : Int) = (n : Int)) (hn3 : n < 65536)
    (hb : (1 ≤ k.toNat ∧ k.toNat ≤ 4 ∧ p % 128 + 7 + n ≤ 128 ∧ p + 7 + n ≤ l.length)) (s T : List UInt8) (hs : (l.drop (p + 7)).take n = s) (hT : (l.drop p).take (7 + n) = T) (c : Bool) (hc : (pieceF k s == T) = c) (hsl : s.length ≤ 65536) :
    Calls Try.prog 23 #[.string (str l), .int .i64 (a : Int)] w fun x w' => x = .returned (.tuple #[.int .i64 (k.toNat : Int), .string (str s), .int .i64 ((p : Int) + 7 + (n : Int)), .bool c]) ∧ Gr w w' := by
  have hy0 := byte_hi (l[p + 4]'h4)
  have hy1 := byte_hi (l[p + 5]'h5)
  have hk := byte_hi k
  
  obtain ⟨hb, hb1, hb2, hb3⟩ := hb
  have HP := Lib.hid (fun w => rPiece_any k s w (by omega))
  have HT := Lib.hid hT
  have HC := Lib.hid hc
  generalize pieceF k s = F at *
  clear hT hc
  rcases hA with ⟨q1, q2⟩ | ⟨q1, rfl⟩
  · go_enter Try.func23, Try.ntmps23
    go_wp2
    refine region_any_gr _ [Is ?r0, Is ?r1, Is (.int .i64 ((p : Int) + 4)), Is (.int .u8 ((l[p + 4]'h4).toNat : Int)), Is (.int .i64 ((l[p + 4]'h4).toNat : Int)), Is ?r5, Is ?r6, Is (.int .i64 ((p : Int) + 5)), Is (.int .u8 ((l[p + 5]'h5).toNat : Int)), Is (.int .i64 ((l[p + 5]'h5).toNat : Int)), Is (.int .i64 (256 * ((l[p + 5]'h5).toNat : Int))), Is (.int .i64 (((l[p + 4]'h4).toNat : Int) + 256 * ((l[p + 5]'h5).toNat : Int))), Is ?r12] (by kernel_rfl) (by kernel_rfl) (by kernel_rfl) rfl rfl ⟨Is.stable _, Is.stable _, Is.stable _, Is.stable _, Is.stable _, Is.stable _, Is.stable _, Is.stable _, Is.stable _, Is.stable _, Is.stable _, Is.stable _, Is.stable _, trivial⟩ ⟨?s0, ?s1, ?s2, ?s3, ?s4, ?s5, ?s6, ?s7, ?s8, ?s9, ?s10, ?s11, ?s12, trivial⟩ ?fin
    case' s0 | s1 | s2 | s3 | s4 | s5 | s6 | s7 | s8 | s9 | s10 | s11 | s12 =>
      intro ρ wr hρ hg hK
      simp [readsOf, slotsOf, Op.operands, Call.operands, tmpOf, List.filterMap_cons, List.filterMap_nil, KnownAll, knownOf, srcOf, depsOf, dstOf, Region.binds, nth, Is] at hK
      obtain ⟨hc, hf, hgl⟩ := hρ
      try simp only [wantedBy, dstOf, boolOf, nth, List.getD_cons_zero, List.getD_cons_succ, List.getElem?_cons_zero, List.getElem?_cons_succ, Option.bind_some, if_true, hK, BEq.rfl]
      try go_simp
      first | exact rfl | (rw [if_pos (by omega)]; exact is_here rfl) | (rw [dif_pos (by omega)]; exact is_here rfl) | exact congrArg (Value.int _) (IntWalk.i64_in _ ⟨by omega, by omega⟩) | skip
    case fin =>
      intro w1 val hg hH
      simp only [Holds, Is, Nat.zero_add, Nat.reduceAdd] at hH
      obtain ⟨h0, h1, h2, h3, h4, h5, h6, h7, h8, h9, h10, h11, h12, _⟩ := hH
      simp only [List.take_succ_cons, List.take_zero, List.drop_succ_cons, List.drop_zero, putAll, h0, h1, h2, h3, h4, h5, h6, h7, h8, h9, h10, h11, h12, Nat.zero_add, Nat.reduceAdd]
      go_simp
      go_wp2
      clear h0 h1 h2 h3 h4 h5 h6 h7 h8 h9 h10 h11 h12
      rename_i j0 j1 j2 j3 j4 j5
      clear j0 j1 j2 j3 hy0 hy1 hn hb2
      have e7 : IntKind.i64.wrap ((p : Int) + 7 + (n : Int)) = (p : Int) + 7 + (n : Int) := IntWalk.i64_in _ ⟨by omega, by omega⟩
    
      refine region_any_gr _ [Is ?r0x1, Is ?r1x1, Is ?r2x1, Is (.int .i64 ((p : Int) + 7)), Is ?r4x1, Is (.int .i64 ((p : Int) + 7 + (n : Int))), Is ?r6x1, Is ?r7x1, Is (.string (str F)), Is ?r9x1, Is ?r10x1, Is ?r11x1, Is (.int .i64 ((p : Int) + 7)), Is ?r13x1, Is (.int .i64 ((p : Int) + 7 + (n : Int))), Is (.string (str T)), Is (.bool c), Is ?r17x1, Is ?r18x1, Is ?r19x1, Is ?r20x1] (by kernel_rfl) (by kernel_rfl) (by kernel_rfl) rfl rfl ⟨Is.stable _, Is.stable _, Is.stable _, Is.stable _, Is.stable _, Is.stable _, Is.stable _, Is.stable _, Is.stable _, Is.stable _, Is.stable _, Is.stable _, Is.stable _, Is.stable _, Is.stable _, Is.stable _, Is.stable _, Is.stable _, Is.stable _, Is.stable _, Is.stable _, trivial⟩ ⟨?s0x1, ?s1x1, ?s2x1, ?s3x1, ?s4x1, ?s5x1, ?s6x1, ?s7x1, ?s8x1, ?s9x1, ?s10x1, ?s11x1, ?s12x1, ?s13x1, ?s14x1, ?s15x1, ?s16x1, ?s17x1, ?s18x1, ?s19x1, ?s20x1, trivial⟩ ?finx1
      case' s0x1 | s1x1 | s2x1 | s3x1 | s4x1 | s5x1 | s6x1 | s7x1 | s8x1 | s9x1 | s10x1 | s11x1 | s12x1 | s13x1 | s14x1 | s15x1 | s16x1 | s17x1 | s18x1 | s19x1 | s20x1 =>
        intro ρ wr hρ hg hK
        simp [readsOf, slotsOf, Op.operands, Call.operands, tmpOf, List.filterMap_cons, List.filterMap_nil, KnownAll, knownOf, srcOf, depsOf, dstOf, Region.binds, nth, Is] at hK
        obtain ⟨hc, hf, hgl⟩ := hρ
        try simp only [wantedBy, dstOf, boolOf, nth, List.getD_cons_zero, List.getD_cons_succ, List.getElem?_cons_zero, List.getElem?_cons_succ, Option.bind_some, if_true, hK, BEq.rfl]
        try go_simp
        first | exact rfl | (rw [if_pos (by omega)]; exact is_here rfl) | (rw [dif_pos (by omega)]; exact is_here rfl) | exact congrArg (Value.int _) (IntWalk.i64_in _ ⟨by omega, by omega⟩) | skip
      case s8x1 => exact any_gr (HP.out _)
      case s15x1 =>
        rw [if_pos ⟨by omega, by omega⟩, if_pos (by omega), show ((p : Int) + 7 + (n : Int)).toNat - p = 7 + n by omega, HT.out]
        exact is_here rfl
      case s16x1 =>
        exact congrArg Value.bool HC.out
      case finx1 =>
        intro w1 val hg hH
        simp only [Holds, Is, Nat.zero_add, Nat.reduceAdd] at hH
        obtain ⟨h0, h1, h2, h3, h4, h5, h6, h7, h8, h9, h10, h11, h12, h13, h14, h15, h16, h17, h18, h19, h20, _⟩ := hH
        simp only [List.take_succ_cons, List.take_zero, List.drop_succ_cons, List.drop_zero, putAll, h0, h1, h2, h3, h4, h5, h6, h7, h8, h9, h10, h11, h12, h13, h14, h15, h16, h17, h18, h19, h20, Nat.zero_add, Nat.reduceAdd]
        go_simp
        go_wp2
        (try simp only [Exit.inBlock, Exit.then]); refine bodyPost_ret (results_tmp4 rfl _ _ _) rfl ?_
        refine ⟨?_, Gr.trans (by assumption) hg⟩
        rfl
  · go_enter Try.func23, Try.ntmps23
    go_wp2
    refine region_any_gr _ [Is ?r0x2, Is ?r1x2, Is (.int .i64 ((p : Int) + 4)), Is (.int .u8 ((l[p + 4]'h4).toNat : Int)), Is (.int .i64 ((l[p + 4]'h4).toNat : Int)), Is ?r5x2, Is ?r6x2, Is (.int .i64 ((p : Int) + 5)), Is (.int .u8 ((l[p + 5]'h5).toNat : Int)), Is (.int .i64 ((l[p + 5]'h5).toNat : Int)), Is (.int .i64 (256 * ((l[p + 5]'h5).toNat : Int))), Is (.int .i64 (((l[p + 4]'h4).toNat : Int) + 256 * ((l[p + 5]'h5).toNat : Int))), Is ?r12x2] (by kernel_rfl) (by kernel_rfl) (by kernel_rfl) rfl rfl ⟨Is.stable _, Is.stable _, Is.stable _, Is.stable _, Is.stable _, Is.stable _, Is.stable _, Is.stable _, Is.stable _, Is.stable _, Is.stable _, Is.stable _, Is.stable _, trivial⟩ ⟨?s0x2, ?s1x2, ?s2x2, ?s3x2, ?s4x2, ?s5x2, ?s6x2, ?s7x2, ?s8x2, ?s9x2, ?s10x2, ?s11x2, ?s12x2, trivial⟩ ?finx2
    case' s0x2 | s1x2 | s2x2 | s3x2 | s4x2 | s5x2 | s6x2 | s7x2 | s8x2 | s9x2 | s10x2 | s11x2 | s12x2 =>
      intro ρ wr hρ hg hK
      simp [readsOf, slotsOf, Op.operands, Call.operands, tmpOf, List.filterMap_cons, List.filterMap_nil, KnownAll, knownOf, srcOf, depsOf, dstOf, Region.binds, nth, Is] at hK
      obtain ⟨hc, hf, hgl⟩ := hρ
      try simp only [wantedBy, dstOf, boolOf, nth, List.getD_cons_zero, List.getD_cons_succ, List.getElem?_cons_zero, List.getElem?_cons_succ, Option.bind_some, if_true, hK, BEq.rfl]
      try go_simp
      first | exact rfl | (rw [if_pos (by omega)]; exact is_here rfl) | (rw [dif_pos (by omega)]; exact is_here rfl) | exact congrArg (Value.int _) (IntWalk.i64_in _ ⟨by omega, by omega⟩) | skip
    case finx2 =>
      intro w1 val hg hH
      simp only [Holds, Is, Nat.zero_add, Nat.reduceAdd] at hH
      obtain ⟨h0, h1, h2, h3, h4, h5, h6, h7, h8, h9, h10, h11, h12, _⟩ := hH
      simp only [List.take_succ_cons, List.take_zero, List.drop_succ_cons, List.drop_zero, putAll, h0, h1, h2, h3, h4, h5, h6, h7, h8, h9, h10, h11, h12, Nat.zero_add, Nat.reduceAdd]
      go_simp
      go_wp2
      clear h0 h1 h2 h3 h4 h5 h6 h7 h8 h9 h10 h11 h12
      rename_i j0 j1 j2 j3 j4 j5
      clear j0 j1 j2 j3 hy0 hy1 hn hb2
      have e7 : IntKind.i64.wrap ((p : Int) + 7 + (n : Int)) = (p : Int) + 7 + (n : Int) := IntWalk.i64_in _ ⟨by omega, by omega⟩
    
      refine region_any_gr _ [Is ?r0x3, Is ?r1x3, Is ?r2x3, Is (.int .i64 ((p : Int) + 7)), Is ?r4x3, Is (.int .i64 ((p : Int) + 7 + (n : Int))), Is ?r6x3, Is ?r7x3, Is (.string (str F)), Is ?r9x3, Is ?r10x3, Is ?r11x3, Is (.int .i64 ((p : Int) + 7)), Is ?r13x3, Is (.int .i64 ((p : Int) + 7 + (n : Int))), Is (.string (str T)), Is (.bool c), Is ?r17x3, Is ?r18x3, Is ?r19x3, Is ?r20x3] (by kernel_rfl) (by kernel_rfl) (by kernel_rfl) rfl rfl ⟨Is.stable _, Is.stable _, Is.stable _, Is.stable _, Is.stable _, Is.stable _, Is.stable _, Is.stable _, Is.stable _, Is.stable _, Is.stable _, Is.stable _, Is.stable _, Is.stable _, Is.stable _, Is.stable _, Is.stable _, Is.stable _, Is.stable _, Is.stable _, Is.stable _, trivial⟩ ⟨?s0x3, ?s1x3, ?s2x3, ?s3x3, ?s4x3, ?s5x3, ?s6x3, ?s7x3, ?s8x3, ?s9x3, ?s10x3, ?s11x3, ?s12x3, ?s13x3, ?s14x3, ?s15x3, ?s16x3, ?s17x3, ?s18x3, ?s19x3, ?s20x3, trivial⟩ ?finx3
      case' s0x3 | s1x3 | s2x3 | s3x3 | s4x3 | s5x3 | s6x3 | s7x3 | s8x3 | s9x3 | s10x3 | s11x3 | s12x3 | s13x3 | s14x3 | s15x3 | s16x3 | s17x3 | s18x3 | s19x3 | s20x3 =>
        intro ρ wr hρ hg hK
        simp [readsOf, slotsOf, Op.operands, Call.operands, tmpOf, List.filterMap_cons, List.filterMap_nil, KnownAll, knownOf, srcOf, depsOf, dstOf, Region.binds, nth, Is] at hK
        obtain ⟨hc, hf, hgl⟩ := hρ
        try simp only [wantedBy, dstOf, boolOf, nth, List.getD_cons_zero, List.getD_cons_succ, List.getElem?_cons_zero, List.getElem?_cons_succ, Option.bind_some, if_true, hK, BEq.rfl]
        try go_simp
        first | exact rfl | (rw [if_pos (by omega)]; exact is_here rfl) | (rw [dif_pos (by omega)]; exact is_here rfl) | exact congrArg (Value.int _) (IntWalk.i64_in _ ⟨by omega, by omega⟩) | skip
      case s8x3 => exact any_gr (HP.out _)
      case s15x3 =>
        rw [if_pos ⟨by omega, by omega⟩, if_pos (by omega), show ((p : Int) + 7 + (n : Int)).toNat - p = 7 + n by omega, HT.out]
        exact is_here rfl
      case s16x3 =>
        exact congrArg Value.bool HC.out
      case finx3 =>
        intro w1 val hg hH
        simp only [Holds, Is, Nat.zero_add, Nat.reduceAdd] at hH
        obtain ⟨h0, h1, h2, h3, h4, h5, h6, h7, h8, h9, h10, h11, h12, h13, h14, h15, h16, h17, h18, h19, h20, _⟩ := hH
        simp only [List.take_succ_cons, List.take_zero, List.drop_succ_cons, List.drop_zero, putAll, h0, h1, h2, h3, h4, h5, h6, h7, h8, h9, h10, h11, h12, h13, h14, h15, h16, h17, h18, h19, h20, Nat.zero_add, Nat.reduceAdd]
        go_simp
        go_wp2
        (try simp only [Exit.inBlock, Exit.then]); refine bodyPost_ret (results_tmp4 rfl _ _ _) rfl ?_
        refine ⟨?_, Gr.trans (by assumption) hg⟩
        rfl
theorem rnext_any (l : List UInt8) (a : Nat) (w : World) (hl : l.length ≤ 100000000) (ha : a ≤ l.length) : Calls Try.prog 23 #[.string (str l), .int .i64 (a : Int)] w (RetN w (takeF l a)) := by
  have hA := at_of a
  have hp6 : padF a ≤ 6 := by unfold padF; split <;> omega
  obtain ⟨p, hp⟩ : ∃ p, a + padF a = p := ⟨_, rfl⟩
  rw [hp] at hA
  by_cases h : l.length < p + 7
  · rw [take_short (by omega)]
    exact next_off l a p w hl ha (by omega) hA h
  · have h7 : p + 7 ≤ l.length := by omega
    rw [take_long hp h7]
    have hn3 : lenAt l p h7 < 65536 := by unfold lenAt; have := (l[p + 4]).toNat_lt; have := (l[p + 5]).toNat_lt; omega
    have hn : ((l[p + 4]'(by omega)).toNat : Int) + 256 * ((l[p + 5]'(by omega)).toNat : Int) = ((lenAt l p h7 : Nat) : Int) := by unfold lenAt; omega
    generalize hln : lenAt l p h7 = n at *
    by_cases hb : (l[p + 6]'(by omega)).toNat < 1 ∨ (1 ≤ (l[p + 6]'(by omega)).toNat ∧ 4 < (l[p + 6]'(by omega)).toNat) ∨ (1 ≤ (l[p + 6]'(by omega)).toNat ∧ (l[p + 6]'(by omega)).toNat ≤ 4 ∧ 128 < p % 128 + 7 + n) ∨ (1 ≤ (l[p + 6]'(by omega)).toNat ∧ (l[p + 6]'(by omega)).toNat ≤ 4 ∧ p % 128 + 7 + n ≤ 128 ∧ l.length < p + 7 + n)
    · have := next_bad l a p w hl ha (by omega) hA h7 n (by omega) (by omega) (by omega) hn hn3 hb
      split
      · exact this
      · rw [if_neg (by omega)]; exact this
    · have hq : 1 ≤ (l[p + 6]'(by omega)).toNat ∧ (l[p + 6]'(by omega)).toNat ≤ 4 ∧ p % 128 + 7 + n ≤ 128 ∧ p + 7 + n ≤ l.length := by omega
      obtain ⟨k1, k2, k3, k4⟩ := hq
      have hsl : ((l.drop (p + 7)).take n).length = n := by simp; omega
      rw [if_neg (by omega)]
      refine (next_fit l a p w hl ha (by omega) hA h7 n (by omega) (by omega) (by omega) _ rfl hn hn3 ⟨k1, k2, k3, k4⟩ _ _ rfl rfl _ rfl (by omega)).mono ?_
      rintro x w' ⟨rfl, g⟩
      refine ⟨_, _, _, _, rfl, g, ?_⟩
      have he := piece_eq h7 rfl rfl hsl hln
      by_cases hs : Varint.le ((l.drop p).take 4) = (sumB (l[p + 6]) ((l.drop (p + 7)).take n)).toNat
      · rw [if_pos ⟨k1, k2, hs⟩]
        exact ⟨by rw [beq_iff_eq]; exact he.2 hs, rfl, rfl, by omega⟩
      · rw [if_neg (fun h => hs h.2.2)]
        show (_ == _) = false
        rw [beq_eq_false_iff_ne]; exact fun h => hs (he.1 h)
end Go.Proofs.Ytmjhffohfppnaaa
