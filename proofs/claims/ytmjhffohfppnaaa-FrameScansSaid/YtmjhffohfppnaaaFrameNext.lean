/- Layer 8 (frame): the reference's next. -/
import Derived.Test.YtmjhffohfppnaaaFrameRef
namespace Go.Proofs.Ytmjhffohfppnaaa
set_option linter.unusedVariables false
set_option linter.unusedSimpArgs false
open Go.RowKit Fr
def NextIs (o : Option (UInt8 × List UInt8 × Nat)) (kd : Int) (s : List UInt8) (t : Int) (ok : Bool) : Prop :=
  match o with
  | none => ok = false
  | some (k, s', t') => ok = true ∧ kd = (k.toNat : Int) ∧ s = s' ∧ t = (t' : Int)
def RetN (w : World) (o : Option (UInt8 × List UInt8 × Nat)) : Ending → World → Prop := fun x w' =>
  ∃ kd s t ok, x = .returned (.tuple #[.int .i64 kd, .string (str s), .int .i64 t, .bool ok]) ∧ Gr w w' ∧ NextIs o kd s t ok
/-- which of the two ways the place goes: whether a block's end is skipped -/
def At_ (a p : Nat) : Prop := ((121 : Int) < (a : Int) % 128 ∧ ((a : Int) / 128 + 1) * 128 = (p : Int)) ∨ (¬ (121 : Int) < (a : Int) % 128 ∧ p = a)
theorem at_of (a : Nat) : At_ a (a + padF a) := by
  have hl : leftF a = 128 - a % 128 := rfl
  unfold At_ padF
  split
  · left; omega
  · right; omega
section
variable (l : List UInt8) (a p : Nat) (w : World) (hl : l.length ≤ 100000000) (ha : a ≤ l.length) (hp : p ≤ a + 6)
include hl ha hp
set_option maxRecDepth 100000 in
set_option maxHeartbeats 1000000 in
theorem next_off (hA : At_ a p) (h : l.length < p + 7) : Calls Try.prog 23 #[.string (str l), .int .i64 (a : Int)] w (RetN w none) := by
  rcases hA with ⟨h1, h2⟩ | ⟨h1, rfl⟩
  · go_enter Try.func23, Try.ntmps23
    go_wp2
    (try simp only [Exit.inBlock, Exit.then]); refine bodyPost_ret (results_tmp4 rfl _ _ _) rfl ?_
    exact ⟨_, [], _, _, rfl, Gr.refl _, rfl⟩
  · go_enter Try.func23, Try.ntmps23
    go_wp2
    (try simp only [Exit.inBlock, Exit.then]); refine bodyPost_ret (results_tmp4 rfl _ _ _) rfl ?_
    exact ⟨_, [], _, _, rfl, Gr.refl _, rfl⟩
set_option maxRecDepth 100000 in
set_option maxHeartbeats 1000000 in
theorem next_bad (hA : At_ a p) (h7 : p + 7 ≤ l.length) (n : Nat) (h4 : p + 4 < l.length) (h5 : p + 5 < l.length) (h6 : p + 6 < l.length) (hn : ((l[p + 4]'h4).toNat : Int) + 256 * ((l[p + 5]'h5).toNat : Int) = (n : Int)) (hn3 : n < 65536)
    (hb : (l[p + 6]'h6).toNat < 1 ∨ (1 ≤ (l[p + 6]'h6).toNat ∧ 4 < (l[p + 6]'h6).toNat) ∨ (1 ≤ (l[p + 6]'h6).toNat ∧ (l[p + 6]'h6).toNat ≤ 4 ∧ 128 < p % 128 + 7 + n) ∨ (1 ≤ (l[p + 6]'h6).toNat ∧ (l[p + 6]'h6).toNat ≤ 4 ∧ p % 128 + 7 + n ≤ 128 ∧ l.length < p + 7 + n)) :
    Calls Try.prog 23 #[.string (str l), .int .i64 (a : Int)] w (RetN w none) := by
  have hy0 := byte_hi (l[p + 4]'h4)
  have hy1 := byte_hi (l[p + 5]'h5)
  have hk := byte_hi (l[p + 6]'h6)
  rcases hA with ⟨h1, h2⟩ | ⟨h1, rfl⟩
  · rcases hb with hb | ⟨hb, hb1⟩ | ⟨hb, hb1, hb2⟩ | ⟨hb, hb1, hb2, hb3⟩
    · go_enter Try.func23, Try.ntmps23
      go_wp2
      refine region_any_gr _ [Is ?r0, Is ?r1, Is (.int .i64 ((p : Int) + 4)), Is (.int .u8 ((l[p + 4]'h4).toNat : Int)), Is (.int .i64 ((l[p + 4]'h4).toNat : Int)), Is ?r5, Is ?r6, Is (.int .i64 ((p : Int) + 5)), Is (.int .u8 ((l[p + 5]'h5).toNat : Int)), Is (.int .i64 ((l[p + 5]'h5).toNat : Int)), Is (.int .i64 (256 * ((l[p + 5]'h5).toNat : Int))), Is (.int .i64 (((l[p + 4]'h4).toNat : Int) + 256 * ((l[p + 5]'h5).toNat : Int))), Is ?r12] (by kernel_rfl) (by kernel_rfl) (by kernel_rfl) rfl rfl ⟨Is.stable _, Is.stable _, Is.stable _, Is.stable _, Is.stable _, Is.stable _, Is.stable _, Is.stable _, Is.stable _, Is.stable _, Is.stable _, Is.stable _, Is.stable _, trivial⟩ ⟨?s0, ?s1, ?s2, ?s3, ?s4, ?s5, ?s6, ?s7, ?s8, ?s9, ?s10, ?s11, ?s12, trivial⟩ ?fin
      case' s0 | s1 | s2 | s3 | s4 | s5 | s6 | s7 | s8 | s9 | s10 | s11 | s12 =>
        intro ρ wr hρ hg hK
        simp [readsOf, slotsOf, Op.operands, Call.operands, tmpOf, List.filterMap_cons, List.filterMap_nil, KnownAll, knownOf, srcOf, depsOf, dstOf, Region.binds, nth, Is] at hK
        obtain ⟨hc, hf, hgl⟩ := hρ
        try simp only [wantedBy, dstOf, boolOf, nth, List.getD_cons_zero, List.getD_cons_succ, List.getElem?_cons_zero, List.getElem?_cons_succ, Option.bind_some, if_true, hK, BEq.rfl]
        try go_simp
        first | exact rfl | (rw [if_pos (by omega)]; exact is_here rfl) | (rw [dif_pos (by omega)]; exact is_here rfl) | exact congrArg (Value.int _) (IntWalk.i64_in _ ⟨by omega, by omega⟩) | skip
      case fin =>
        intro w1 val hg hH
        simp only [Holds, Is, Nat.zero_add, Nat.reduceAdd] at hH
        obtain ⟨h0, h1, h2, h3, h4, h5, h6, h7, h8, h9, h10, h11, h12, _⟩ := hH
        simp only [List.take_succ_cons, List.take_zero, List.drop_succ_cons, List.drop_zero, putAll, h0, h1, h2, h3, h4, h5, h6, h7, h8, h9, h10, h11, h12, Nat.zero_add, Nat.reduceAdd]
        go_simp
        go_wp2
        (try simp only [Exit.inBlock, Exit.then]); refine bodyPost_ret (results_tmp4 rfl _ _ _) rfl ?_
        exact ⟨_, [], _, _, rfl, hg, rfl⟩
    · go_enter Try.func23, Try.ntmps23
      go_wp2
      refine region_any_gr _ [Is ?r0x1, Is ?r1x1, Is (.int .i64 ((p : Int) + 4)), Is (.int .u8 ((l[p + 4]'h4).toNat : Int)), Is (.int .i64 ((l[p + 4]'h4).toNat : Int)), Is ?r5x1, Is ?r6x1, Is (.int .i64 ((p : Int) + 5)), Is (.int .u8 ((l[p + 5]'h5).toNat : Int)), Is (.int .i64 ((l[p + 5]'h5).toNat : Int)), Is (.int .i64 (256 * ((l[p + 5]'h5).toNat : Int))), Is (.int .i64 (((l[p + 4]'h4).toNat : Int) + 256 * ((l[p + 5]'h5).toNat : Int))), Is ?r12x1] (by kernel_rfl) (by kernel_rfl) (by kernel_rfl) rfl rfl ⟨Is.stable _, Is.stable _, Is.stable _, Is.stable _, Is.stable _, Is.stable _, Is.stable _, Is.stable _, Is.stable _, Is.stable _, Is.stable _, Is.stable _, Is.stable _, trivial⟩ ⟨?s0x1, ?s1x1, ?s2x1, ?s3x1, ?s4x1, ?s5x1, ?s6x1, ?s7x1, ?s8x1, ?s9x1, ?s10x1, ?s11x1, ?s12x1, trivial⟩ ?finx1
      case' s0x1 | s1x1 | s2x1 | s3x1 | s4x1 | s5x1 | s6x1 | s7x1 | s8x1 | s9x1 | s10x1 | s11x1 | s12x1 =>
        intro ρ wr hρ hg hK
        simp [readsOf, slotsOf, Op.operands, Call.operands, tmpOf, List.filterMap_cons, List.filterMap_nil, KnownAll, knownOf, srcOf, depsOf, dstOf, Region.binds, nth, Is] at hK
        obtain ⟨hc, hf, hgl⟩ := hρ
        try simp only [wantedBy, dstOf, boolOf, nth, List.getD_cons_zero, List.getD_cons_succ, List.getElem?_cons_zero, List.getElem?_cons_succ, Option.bind_some, if_true, hK, BEq.rfl]
        try go_simp
        first | exact rfl | (rw [if_pos (by omega)]; exact is_here rfl) | (rw [dif_pos (by omega)]; exact is_here rfl) | exact congrArg (Value.int _) (IntWalk.i64_in _ ⟨by omega, by omega⟩) | skip
      case finx1 =>
        intro w1 val hg hH
        simp only [Holds, Is, Nat.zero_add, Nat.reduceAdd] at hH
        obtain ⟨h0, h1, h2, h3, h4, h5, h6, h7, h8, h9, h10, h11, h12, _⟩ := hH
        simp only [List.take_succ_cons, List.take_zero, List.drop_succ_cons, List.drop_zero, putAll, h0, h1, h2, h3, h4, h5, h6, h7, h8, h9, h10, h11, h12, Nat.zero_add, Nat.reduceAdd]
        go_simp
        go_wp2
        (try simp only [Exit.inBlock, Exit.then]); refine bodyPost_ret (results_tmp4 rfl _ _ _) rfl ?_
        exact ⟨_, [], _, _, rfl, hg, rfl⟩
    · go_enter Try.func23, Try.ntmps23
      go_wp2
      refine region_any_gr _ [Is ?r0x2, Is ?r1x2, Is (.int .i64 ((p : Int) + 4)), Is (.int .u8 ((l[p + 4]'h4).toNat : Int)), Is (.int .i64 ((l[p + 4]'h4).toNat : Int)), Is ?r5x2, Is ?r6x2, Is (.int .i64 ((p : Int) + 5)), Is (.int .u8 ((l[p + 5]'h5).toNat : Int)), Is (.int .i64 ((l[p + 5]'h5).toNat : Int)), Is (.int .i64 (256 * ((l[p + 5]'h5).toNat : Int))), Is (.int .i64 (((l[p + 4]'h4).toNat : Int) + 256 * ((l[p + 5]'h5).toNat : Int))), Is ?r12x2] (by kernel_rfl) (by kernel_rfl) (by kernel_rfl) rfl rfl ⟨Is.stable _, Is.stable _, Is.stable _, Is.stable _, Is.stable _, Is.stable _, Is.stable _, Is.stable _, Is.stable _, Is.stable _, Is.stable _, Is.stable _, Is.stable _, trivial⟩ ⟨?s0x2, ?s1x2, ?s2x2, ?s3x2, ?s4x2, ?s5x2, ?s6x2, ?s7x2, ?s8x2, ?s9x2, ?s10x2, ?s11x2, ?s12x2, trivial⟩ ?finx2
      case' s0x2 | s1x2 | s2x2 | s3x2 | s4x2 | s5x2 | s6x2 | s7x2 | s8x2 | s9x2 | s10x2 | s11x2 | s12x2 =>
        intro ρ wr hρ hg hK
        simp [readsOf, slotsOf, Op.operands, Call.operands, tmpOf, List.filterMap_cons, List.filterMap_nil, KnownAll, knownOf, srcOf, depsOf, dstOf, Region.binds, nth, Is] at hK
        obtain ⟨hc, hf, hgl⟩ := hρ
        try simp only [wantedBy, dstOf, boolOf, nth, List.getD_cons_zero, List.getD_cons_succ, List.getElem?_cons_zero, List.getElem?_cons_succ, Option.bind_some, if_true, hK, BEq.rfl]
        try go_simp
        first | exact rfl | (rw [if_pos (by omega)]; exact is_here rfl) | (rw [dif_pos (by omega)]; exact is_here rfl) | exact congrArg (Value.int _) (IntWalk.i64_in _ ⟨by omega, by omega⟩) | skip
      case finx2 =>
        intro w1 val hg hH
        simp only [Holds, Is, Nat.zero_add, Nat.reduceAdd] at hH
        obtain ⟨h0, h1, h2, h3, h4, h5, h6, h7, h8, h9, h10, h11, h12, _⟩ := hH
        simp only [List.take_succ_cons, List.take_zero, List.drop_succ_cons, List.drop_zero, putAll, h0, h1, h2, h3, h4, h5, h6, h7, h8, h9, h10, h11, h12, Nat.zero_add, Nat.reduceAdd]
        go_simp
        go_wp2
        (try simp only [Exit.inBlock, Exit.then]); refine bodyPost_ret (results_tmp4 rfl _ _ _) rfl ?_
        exact ⟨_, [], _, _, rfl, hg, rfl⟩
    · go_enter Try.func23, Try.ntmps23
      go_wp2
      refine region_any_gr _ [Is ?r0x3, Is ?r1x3, Is (.int .i64 ((p : Int) + 4)), Is (.int .u8 ((l[p + 4]'h4).toNat : Int)), Is (.int .i64 ((l[p + 4]'h4).toNat : Int)), Is ?r5x3, Is ?r6x3, Is (.int .i64 ((p : Int) + 5)), Is (.int .u8 ((l[p + 5]'h5).toNat : Int)), Is (.int .i64 ((l[p + 5]'h5).toNat : Int)), Is (.int .i64 (256 * ((l[p + 5]'h5).toNat : Int))), Is (.int .i64 (((l[p + 4]'h4).toNat : Int) + 256 * ((l[p + 5]'h5).toNat : Int))), Is ?r12x3] (by kernel_rfl) (by kernel_rfl) (by kernel_rfl) rfl rfl ⟨Is.stable _, Is.stable _, Is.stable _, Is.stable _, Is.stable _, Is.stable _, Is.stable _, Is.stable _, Is.stable _, Is.stable _, Is.stable _, Is.stable _, Is.stable _, trivial⟩ ⟨?s0x3, ?s1x3, ?s2x3, ?s3x3, ?s4x3, ?s5x3, ?s6x3, ?s7x3, ?s8x3, ?s9x3, ?s10x3, ?s11x3, ?s12x3, trivial⟩ ?finx3
      case' s0x3 | s1x3 | s2x3 | s3x3 | s4x3 | s5x3 | s6x3 | s7x3 | s8x3 | s9x3 | s10x3 | s11x3 | s12x3 =>
        intro ρ wr hρ hg hK
        simp [readsOf, slotsOf, Op.operands, Call.operands, tmpOf, List.filterMap_cons, List.filterMap_nil, KnownAll, knownOf, srcOf, depsOf, dstOf, Region.binds, nth, Is] at hK
        obtain ⟨hc, hf, hgl⟩ := hρ
        try simp only [wantedBy, dstOf, boolOf, nth, List.getD_cons_zero, List.getD_cons_succ, List.getElem?_cons_zero, List.getElem?_cons_succ, Option.bind_some, if_true, hK, BEq.rfl]
        try go_simp
        first | exact rfl | (rw [if_pos (by omega)]; exact is_here rfl) | (rw [dif_pos (by omega)]; exact is_here rfl) | exact congrArg (Value.int _) (IntWalk.i64_in _ ⟨by omega, by omega⟩) | skip
      case finx3 =>
        intro w1 val hg hH
        simp only [Holds, Is, Nat.zero_add, Nat.reduceAdd] at hH
        obtain ⟨h0, h1, h2, h3, h4, h5, h6, h7, h8, h9, h10, h11, h12, _⟩ := hH
        simp only [List.take_succ_cons, List.take_zero, List.drop_succ_cons, List.drop_zero, putAll, h0, h1, h2, h3, h4, h5, h6, h7, h8, h9, h10, h11, h12, Nat.zero_add, Nat.reduceAdd]
        go_simp
        go_wp2
        (try simp only [Exit.inBlock, Exit.then]); refine bodyPost_ret (results_tmp4 rfl _ _ _) rfl ?_
        exact ⟨_, [], _, _, rfl, hg, rfl⟩
  · rcases hb with hb | ⟨hb, hb1⟩ | ⟨hb, hb1, hb2⟩ | ⟨hb, hb1, hb2, hb3⟩
    · go_enter Try.func23, Try.ntmps23
      go_wp2
      refine region_any_gr _ [Is ?r0x4, Is ?r1x4, Is (.int .i64 ((p : Int) + 4)), Is (.int .u8 ((l[p + 4]'h4).toNat : Int)), Is (.int .i64 ((l[p + 4]'h4).toNat : Int)), Is ?r5x4, Is ?r6x4, Is (.int .i64 ((p : Int) + 5)), Is (.int .u8 ((l[p + 5]'h5).toNat : Int)), Is (.int .i64 ((l[p + 5]'h5).toNat : Int)), Is (.int .i64 (256 * ((l[p + 5]'h5).toNat : Int))), Is (.int .i64 (((l[p + 4]'h4).toNat : Int) + 256 * ((l[p + 5]'h5).toNat : Int))), Is ?r12x4] (by kernel_rfl) (by kernel_rfl) (by kernel_rfl) rfl rfl ⟨Is.stable _, Is.stable _, Is.stable _, Is.stable _, Is.stable _, Is.stable _, Is.stable _, Is.stable _, Is.stable _, Is.stable _, Is.stable _, Is.stable _, Is.stable _, trivial⟩ ⟨?s0x4, ?s1x4, ?s2x4, ?s3x4, ?s4x4, ?s5x4, ?s6x4, ?s7x4, ?s8x4, ?s9x4, ?s10x4, ?s11x4, ?s12x4, trivial⟩ ?finx4
      case' s0x4 | s1x4 | s2x4 | s3x4 | s4x4 | s5x4 | s6x4 | s7x4 | s8x4 | s9x4 | s10x4 | s11x4 | s12x4 =>
        intro ρ wr hρ hg hK
        simp [readsOf, slotsOf, Op.operands, Call.operands, tmpOf, List.filterMap_cons, List.filterMap_nil, KnownAll, knownOf, srcOf, depsOf, dstOf, Region.binds, nth, Is] at hK
        obtain ⟨hc, hf, hgl⟩ := hρ
        try simp only [wantedBy, dstOf, boolOf, nth, List.getD_cons_zero, List.getD_cons_succ, List.getElem?_cons_zero, List.getElem?_cons_succ, Option.bind_some, if_true, hK, BEq.rfl]
        try go_simp
        first | exact rfl | (rw [if_pos (by omega)]; exact is_here rfl) | (rw [dif_pos (by omega)]; exact is_here rfl) | exact congrArg (Value.int _) (IntWalk.i64_in _ ⟨by omega, by omega⟩) | skip
      case finx4 =>
        intro w1 val hg hH
        simp only [Holds, Is, Nat.zero_add, Nat.reduceAdd] at hH
        obtain ⟨h0, h1, h2, h3, h4, h5, h6, h7, h8, h9, h10, h11, h12, _⟩ := hH
        simp only [List.take_succ_cons, List.take_zero, List.drop_succ_cons, List.drop_zero, putAll, h0, h1, h2, h3, h4, h5, h6, h7, h8, h9, h10, h11, h12, Nat.zero_add, Nat.reduceAdd]
        go_simp
        go_wp2
        (try simp only [Exit.inBlock, Exit.then]); refine bodyPost_ret (results_tmp4 rfl _ _ _) rfl ?_
        exact ⟨_, [], _, _, rfl, hg, rfl⟩
    · go_enter Try.func23, Try.ntmps23
      go_wp2
      refine region_any_gr _ [Is ?r0x5, Is ?r1x5, Is (.int .i64 ((p : Int) + 4)), Is (.int .u8 ((l[p + 4]'h4).toNat : Int)), Is (.int .i64 ((l[p + 4]'h4).toNat : Int)), Is ?r5x5, Is ?r6x5, Is (.int .i64 ((p : Int) + 5)), Is (.int .u8 ((l[p + 5]'h5).toNat : Int)), Is (.int .i64 ((l[p + 5]'h5).toNat : Int)), Is (.int .i64 (256 * ((l[p + 5]'h5).toNat : Int))), Is (.int .i64 (((l[p + 4]'h4).toNat : Int) + 256 * ((l[p + 5]'h5).toNat : Int))), Is ?r12x5] (by kernel_rfl) (by kernel_rfl) (by kernel_rfl) rfl rfl ⟨Is.stable _, Is.stable _, Is.stable _, Is.stable _, Is.stable _, Is.stable _, Is.stable _, Is.stable _, Is.stable _, Is.stable _, Is.stable _, Is.stable _, Is.stable _, trivial⟩ ⟨?s0x5, ?s1x5, ?s2x5, ?s3x5, ?s4x5, ?s5x5, ?s6x5, ?s7x5, ?s8x5, ?s9x5, ?s10x5, ?s11x5, ?s12x5, trivial⟩ ?finx5
      case' s0x5 | s1x5 | s2x5 | s3x5 | s4x5 | s5x5 | s6x5 | s7x5 | s8x5 | s9x5 | s10x5 | s11x5 | s12x5 =>
        intro ρ wr hρ hg hK
        simp [readsOf, slotsOf, Op.operands, Call.operands, tmpOf, List.filterMap_cons, List.filterMap_nil, KnownAll, knownOf, srcOf, depsOf, dstOf, Region.binds, nth, Is] at hK
        obtain ⟨hc, hf, hgl⟩ := hρ
        try simp only [wantedBy, dstOf, boolOf, nth, List.getD_cons_zero, List.getD_cons_succ, List.getElem?_cons_zero, List.getElem?_cons_succ, Option.bind_some, if_true, hK, BEq.rfl]
        try go_simp
        first | exact rfl | (rw [if_pos (by omega)]; exact is_here rfl) | (rw [dif_pos (by omega)]; exact is_here rfl) | exact congrArg (Value.int _) (IntWalk.i64_in _ ⟨by omega, by omega⟩) | skip
      case finx5 =>
        intro w1 val hg hH
        simp only [Holds, Is, Nat.zero_add, Nat.reduceAdd] at hH
        obtain ⟨h0, h1, h2, h3, h4, h5, h6, h7, h8, h9, h10, h11, h12, _⟩ := hH
        simp only [List.take_succ_cons, List.take_zero, List.drop_succ_cons, List.drop_zero, putAll, h0, h1, h2, h3, h4, h5, h6, h7, h8, h9, h10, h11, h12, Nat.zero_add, Nat.reduceAdd]
        go_simp
        go_wp2
        (try simp only [Exit.inBlock, Exit.then]); refine bodyPost_ret (results_tmp4 rfl _ _ _) rfl ?_
        exact ⟨_, [], _, _, rfl, hg, rfl⟩
    · go_enter Try.func23, Try.ntmps23
      go_wp2
      refine region_any_gr _ [Is ?r0x6, Is ?r1x6, Is (.int .i64 ((p : Int) + 4)), Is (.int .u8 ((l[p + 4]'h4).toNat : Int)), Is (.int .i64 ((l[p + 4]'h4).toNat : Int)), Is ?r5x6, Is ?r6x6, Is (.int .i64 ((p : Int) + 5)), Is (.int .u8 ((l[p + 5]'h5).toNat : Int)), Is (.int .i64 ((l[p + 5]'h5).toNat : Int)), Is (.int .i64 (256 * ((l[p + 5]'h5).toNat : Int))), Is (.int .i64 (((l[p + 4]'h4).toNat : Int) + 256 * ((l[p + 5]'h5).toNat : Int))), Is ?r12x6] (by kernel_rfl) (by kernel_rfl) (by kernel_rfl) rfl rfl ⟨Is.stable _, Is.stable _, Is.stable _, Is.stable _, Is.stable _, Is.stable _, Is.stable _, Is.stable _, Is.stable _, Is.stable _, Is.stable _, Is.stable _, Is.stable _, trivial⟩ ⟨?s0x6, ?s1x6, ?s2x6, ?s3x6, ?s4x6, ?s5x6, ?s6x6, ?s7x6, ?s8x6, ?s9x6, ?s10x6, ?s11x6, ?s12x6, trivial⟩ ?finx6
      case' s0x6 | s1x6 | s2x6 | s3x6 | s4x6 | s5x6 | s6x6 | s7x6 | s8x6 | s9x6 | s10x6 | s11x6 | s12x6 =>
        intro ρ wr hρ hg hK
        simp [readsOf, slotsOf, Op.operands, Call.operands, tmpOf, List.filterMap_cons, List.filterMap_nil, KnownAll, knownOf, srcOf, depsOf, dstOf, Region.binds, nth, Is] at hK
        obtain ⟨hc, hf, hgl⟩ := hρ
        try simp only [wantedBy, dstOf, boolOf, nth, List.getD_cons_zero, List.getD_cons_succ, List.getElem?_cons_zero, List.getElem?_cons_succ, Option.bind_some, if_true, hK, BEq.rfl]
        try go_simp
        first | exact rfl | (rw [if_pos (by omega)]; exact is_here rfl) | (rw [dif_pos (by omega)]; exact is_here rfl) | exact congrArg (Value.int _) (IntWalk.i64_in _ ⟨by omega, by omega⟩) | skip
      case finx6 =>
        intro w1 val hg hH
        simp only [Holds, Is, Nat.zero_add, Nat.reduceAdd] at hH
        obtain ⟨h0, h1, h2, h3, h4, h5, h6, h7, h8, h9, h10, h11, h12, _⟩ := hH
        simp only [List.take_succ_cons, List.take_zero, List.drop_succ_cons, List.drop_zero, putAll, h0, h1, h2, h3, h4, h5, h6, h7, h8, h9, h10, h11, h12, Nat.zero_add, Nat.reduceAdd]
        go_simp
        go_wp2
        (try simp only [Exit.inBlock, Exit.then]); refine bodyPost_ret (results_tmp4 rfl _ _ _) rfl ?_
        exact ⟨_, [], _, _, rfl, hg, rfl⟩
    · go_enter Try.func23, Try.ntmps23
      go_wp2
      refine region_any_gr _ [Is ?r0x7, Is ?r1x7, Is (.int .i64 ((p : Int) + 4)), Is (.int .u8 ((l[p + 4]'h4).toNat : Int)), Is (.int .i64 ((l[p + 4]'h4).toNat : Int)), Is ?r5x7, Is ?r6x7, Is (.int .i64 ((p : Int) + 5)), Is (.int .u8 ((l[p + 5]'h5).toNat : Int)), Is (.int .i64 ((l[p + 5]'h5).toNat : Int)), Is (.int .i64 (256 * ((l[p + 5]'h5).toNat : Int))), Is (.int .i64 (((l[p + 4]'h4).toNat : Int) + 256 * ((l[p + 5]'h5).toNat : Int))), Is ?r12x7] (by kernel_rfl) (by kernel_rfl) (by kernel_rfl) rfl rfl ⟨Is.stable _, Is.stable _, Is.stable _, Is.stable _, Is.stable _, Is.stable _, Is.stable _, Is.stable _, Is.stable _, Is.stable _, Is.stable _, Is.stable _, Is.stable _, trivial⟩ ⟨?s0x7, ?s1x7, ?s2x7, ?s3x7, ?s4x7, ?s5x7, ?s6x7, ?s7x7, ?s8x7, ?s9x7, ?s10x7, ?s11x7, ?s12x7, trivial⟩ ?finx7
      case' s0x7 | s1x7 | s2x7 | s3x7 | s4x7 | s5x7 | s6x7 | s7x7 | s8x7 | s9x7 | s10x7 | s11x7 | s12x7 =>
        intro ρ wr hρ hg hK
        simp [readsOf, slotsOf, Op.operands, Call.operands, tmpOf, List.filterMap_cons, List.filterMap_nil, KnownAll, knownOf, srcOf, depsOf, dstOf, Region.binds, nth, Is] at hK
        obtain ⟨hc, hf, hgl⟩ := hρ
        try simp only [wantedBy, dstOf, boolOf, nth, List.getD_cons_zero, List.getD_cons_succ, List.getElem?_cons_zero, List.getElem?_cons_succ, Option.bind_some, if_true, hK, BEq.rfl]
        try go_simp
        first | exact rfl | (rw [if_pos (by omega)]; exact is_here rfl) | (rw [dif_pos (by omega)]; exact is_here rfl) | exact congrArg (Value.int _) (IntWalk.i64_in _ ⟨by omega, by omega⟩) | skip
      case finx7 =>
        intro w1 val hg hH
        simp only [Holds, Is, Nat.zero_add, Nat.reduceAdd] at hH
        obtain ⟨h0, h1, h2, h3, h4, h5, h6, h7, h8, h9, h10, h11, h12, _⟩ := hH
        simp only [List.take_succ_cons, List.take_zero, List.drop_succ_cons, List.drop_zero, putAll, h0, h1, h2, h3, h4, h5, h6, h7, h8, h9, h10, h11, h12, Nat.zero_add, Nat.reduceAdd]
        go_simp
        go_wp2
        (try simp only [Exit.inBlock, Exit.then]); refine bodyPost_ret (results_tmp4 rfl _ _ _) rfl ?_
        exact ⟨_, [], _, _, rfl, hg, rfl⟩
end
end Go.Proofs.Ytmjhffohfppnaaa
