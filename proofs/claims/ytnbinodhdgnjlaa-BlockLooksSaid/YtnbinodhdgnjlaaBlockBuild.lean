/- Layer 13 (block): common, fixed. -/
import Derived.Test.YtnbinodhdgnjlaaBlockCheck
import Derived.Test.YtnbinodhdgnjlaaAnyT
import Derived.Outline
namespace Go.Proofs.Ytnbinodhdgnjlaa
set_option linter.unusedVariables false
set_option linter.unusedSimpArgs false
open Go.RowKit Bk
open Go.Op (bytesLess)
set_option maxRecDepth 100000 in
set_option maxHeartbeats 1000000 in
theorem common_any (a b : List UInt8) (w : World) (ha : a.length ≤ 9223372036854775806) (hb : b.length ≤ 9223372036854775806) :
    Calls Try.prog 32 #[.string (str a), .string (str b)] w fun e w' => e = .returned (.int .i64 (comF a b : Nat)) ∧ Gr w w' := by
  go_enter Try.func32, Try.ntmps32
  go_wp2
  go_loopw [5] (fun v wr => ∃ n : Nat, n ≤ a.length ∧ n ≤ b.length ∧ v = .int .i64 (n : Int) ∧ Gr w wr ∧ comF a b = n + comF (a.drop n) (b.drop n)) (fun v _ => a.length - (intOf v).toNat)
  case atStart => exact ⟨0, Nat.zero_le _, Nat.zero_le _, rfl, Gr.refl _, by simp⟩
  case round =>
    obtain ⟨n, hn1, hn2, rfl, hg0, hc⟩ := hrel
    obtain ⟨m, hm⟩ : ∃ m, m = min a.length b.length := ⟨_, rfl⟩
    have hmin : min (a.length : Int) (b.length : Int) = (m : Int) := by omega
    obtain ⟨m1, m2, m3⟩ : m ≤ a.length ∧ m ≤ b.length ∧ (a.length ≤ m ∨ b.length ≤ m) := by omega
    clear hm
    by_cases hlt : n < m
    · have k1 : n < a.length := by omega
      have k2 : n < b.length := by omega
      by_cases he : a[n]'k1 = b[n]'k2
      · have HC := Lib.hid (hc.trans (congrArg (n + ·) (comF_step k1 k2 he)))
        have hbe : (((a[n]'k1).toNat : Int) == ((b[n]'k2).toNat : Int)) = true := by rw [he]; simp
        clear hc he
        go_wp2
        refine region_any_gr _ [Is ?r0, Is ?r1, Is (.int .i64 (a.length : Int)), Is ?r3, Is (.int .i64 (b.length : Int)), Is (.int .i64 (m : Int)), Is (.bool true), Is (.bool true), Is (.string (str a)), Is (.int .i64 (n : Int)), Is (.int .u8 ((a[n]'k1).toNat : Int)), Is (.string (str b)), Is (.int .i64 (n : Int)), Is (.int .u8 ((b[n]'k2).toNat : Int)), Is (.bool true), Is (.bool true)] (by kernel_rfl) (by kernel_rfl) (by kernel_rfl) rfl rfl ⟨Is.stable _, Is.stable _, Is.stable _, Is.stable _, Is.stable _, Is.stable _, Is.stable _, Is.stable _, Is.stable _, Is.stable _, Is.stable _, Is.stable _, Is.stable _, Is.stable _, Is.stable _, Is.stable _, trivial⟩ ⟨?s0, ?s1, ?s2, ?s3, ?s4, ?s5, ?s6, ?s7, ?s8, ?s9, ?s10, ?s11, ?s12, ?s13, ?s14, ?s15, trivial⟩ ?fin
        case' s0 | s1 | s2 | s3 | s4 | s5 | s6 | s7 | s8 | s9 | s10 | s11 | s12 | s13 | s14 | s15 =>
          intro ρ wr hρ hg hK
          simp [readsOf, slotsOf, Op.operands, Call.operands, tmpOf, List.filterMap_cons, List.filterMap_nil, KnownAll, knownOf, srcOf, depsOf, dstOf, Region.binds, nth, Is] at hK
          obtain ⟨hc, hf, hgl⟩ := hρ
          try simp only [wantedBy, dstOf, boolOf, nth, List.getD_cons_zero, List.getD_cons_succ, List.getElem?_cons_zero, List.getElem?_cons_succ, Option.bind_some, if_true, hK, BEq.rfl]
          try go_simp
          first | exact rfl | (rw [if_pos (by omega)]; exact is_here rfl) | (rw [dif_pos (by omega)]; exact is_here rfl) | exact congrArg (Value.int _) (IntWalk.i64_in _ ⟨by omega, by omega⟩) | skip
        case fin =>
          intro w1 val hg hH
          simp only [Holds, Is, Nat.zero_add, Nat.reduceAdd] at hH
          obtain ⟨h0, h1, h2, h3, h4, h5, h6, h7, h8, h9, h10, h11, h12, h13, h14, h15, _⟩ := hH
          simp only [List.take_succ_cons, List.take_zero, List.drop_succ_cons, List.drop_zero, putAll, h0, h1, h2, h3, h4, h5, h6, h7, h8, h9, h10, h11, h12, h13, h14, h15, Nat.zero_add, Nat.reduceAdd]
          go_simp
          go_wp2
          go_roundw
          case rel => exact ⟨n + 1, k1, k2, by go_num, hg0.trans hg, by rw [HC.out]; omega⟩
          case measure => simp [intOf]; omega
      · have HC := Lib.hid (show comF a b = n by rw [hc, comF_stop k1 k2 he]; rfl)
        have hbe : (((a[n]'k1).toNat : Int) == ((b[n]'k2).toNat : Int)) = false := by
          rw [beq_eq_false_iff_ne]; intro h; exact he (UInt8.toNat_inj.1 (by omega))
        clear hc he
        go_wp2
        refine region_any_gr _ [Is ?r0x1, Is ?r1x1, Is (.int .i64 (a.length : Int)), Is ?r3x1, Is (.int .i64 (b.length : Int)), Is (.int .i64 (m : Int)), Is (.bool true), Is (.bool true), Is (.string (str a)), Is (.int .i64 (n : Int)), Is (.int .u8 ((a[n]'k1).toNat : Int)), Is (.string (str b)), Is (.int .i64 (n : Int)), Is (.int .u8 ((b[n]'k2).toNat : Int)), Is (.bool false), Is (.bool false)] (by kernel_rfl) (by kernel_rfl) (by kernel_rfl) rfl rfl ⟨Is.stable _, Is.stable _, Is.stable _, Is.stable _, Is.stable _, Is.stable _, Is.stable _, Is.stable _, Is.stable _, Is.stable _, Is.stable _, Is.stable _, Is.stable _, Is.stable _, Is.stable _, Is.stable _, trivial⟩ ⟨?s0x1, ?s1x1, ?s2x1, ?s3x1, ?s4x1, ?s5x1, ?s6x1, ?s7x1, ?s8x1, ?s9x1, ?s10x1, ?s11x1, ?s12x1, ?s13x1, ?s14x1, ?s15x1, trivial⟩ ?finx1
        case' s0x1 | s1x1 | s2x1 | s3x1 | s4x1 | s5x1 | s6x1 | s7x1 | s8x1 | s9x1 | s10x1 | s11x1 | s12x1 | s13x1 | s14x1 | s15x1 =>
          intro ρ wr hρ hg hK
          simp [readsOf, slotsOf, Op.operands, Call.operands, tmpOf, List.filterMap_cons, List.filterMap_nil, KnownAll, knownOf, srcOf, depsOf, dstOf, Region.binds, nth, Is] at hK
          obtain ⟨hc, hf, hgl⟩ := hρ
          try simp only [wantedBy, dstOf, boolOf, nth, List.getD_cons_zero, List.getD_cons_succ, List.getElem?_cons_zero, List.getElem?_cons_succ, Option.bind_some, if_true, hK, BEq.rfl]
          try go_simp
          first | exact rfl | (rw [if_pos (by omega)]; exact is_here rfl) | (rw [dif_pos (by omega)]; exact is_here rfl) | exact congrArg (Value.int _) (IntWalk.i64_in _ ⟨by omega, by omega⟩) | skip
        case finx1 =>
          intro w1 val hg hH
          simp only [Holds, Is, Nat.zero_add, Nat.reduceAdd] at hH
          obtain ⟨h0, h1, h2, h3, h4, h5, h6, h7, h8, h9, h10, h11, h12, h13, h14, h15, _⟩ := hH
          simp only [List.take_succ_cons, List.take_zero, List.drop_succ_cons, List.drop_zero, putAll, h0, h1, h2, h3, h4, h5, h6, h7, h8, h9, h10, h11, h12, h13, h14, h15, Nat.zero_add, Nat.reduceAdd]
          go_simp
          go_wp2
          go_ret
          exact ⟨by rw [HC.out]; rfl, hg0.trans hg⟩
    · have HC := Lib.hid (show comF a b = n by rw [hc, comF_end (by omega)]; rfl)
      clear hc
      go_wp2
      refine region_any_gr _ [Is ?r0x2, Is ?r1x2, Is (.int .i64 (a.length : Int)), Is ?r3x2, Is (.int .i64 (b.length : Int)), Is (.int .i64 (m : Int)), Is (.bool false), Is (.bool false), Is (undef), Is (undef), Is (undef), Is (undef), Is (undef), Is (undef), Is (undef), Is (.bool false)] (by kernel_rfl) (by kernel_rfl) (by kernel_rfl) rfl rfl ⟨Is.stable _, Is.stable _, Is.stable _, Is.stable _, Is.stable _, Is.stable _, Is.stable _, Is.stable _, Is.stable _, Is.stable _, Is.stable _, Is.stable _, Is.stable _, Is.stable _, Is.stable _, Is.stable _, trivial⟩ ⟨?s0x2, ?s1x2, ?s2x2, ?s3x2, ?s4x2, ?s5x2, ?s6x2, ?s7x2, ?s8x2, ?s9x2, ?s10x2, ?s11x2, ?s12x2, ?s13x2, ?s14x2, ?s15x2, trivial⟩ ?finx2
      case' s0x2 | s1x2 | s2x2 | s3x2 | s4x2 | s5x2 | s6x2 | s7x2 | s8x2 | s9x2 | s10x2 | s11x2 | s12x2 | s13x2 | s14x2 | s15x2 =>
        intro ρ wr hρ hg hK
        simp [readsOf, slotsOf, Op.operands, Call.operands, tmpOf, List.filterMap_cons, List.filterMap_nil, KnownAll, knownOf, srcOf, depsOf, dstOf, Region.binds, nth, Is] at hK
        obtain ⟨hc, hf, hgl⟩ := hρ
        try simp only [wantedBy, dstOf, boolOf, nth, List.getD_cons_zero, List.getD_cons_succ, List.getElem?_cons_zero, List.getElem?_cons_succ, Option.bind_some, if_true, hK, BEq.rfl]
        try go_simp
        first | exact rfl | (rw [if_pos (by omega)]; exact is_here rfl) | (rw [dif_pos (by omega)]; exact is_here rfl) | exact congrArg (Value.int _) (IntWalk.i64_in _ ⟨by omega, by omega⟩) | skip
      case finx2 =>
        intro w1 val hg hH
        simp only [Holds, Is, Nat.zero_add, Nat.reduceAdd] at hH
        obtain ⟨h0, h1, h2, h3, h4, h5, h6, h7, h8, h9, h10, h11, h12, h13, h14, h15, _⟩ := hH
        simp only [List.take_succ_cons, List.take_zero, List.drop_succ_cons, List.drop_zero, putAll, h0, h1, h2, h3, h4, h5, h6, h7, h8, h9, h10, h11, h12, h13, h14, h15, Nat.zero_add, Nat.reduceAdd]
        go_simp
        go_wp2
        go_ret
        exact ⟨by rw [HC.out]; rfl, hg0.trans hg⟩
theorem Fixed_at (X : Int) (n k : Nat) (S : Int) (w : World) (hX : X = (n : Int)) (hS : S = (k : Int)) (hk : k ≤ 8) (hn : n < 256 ^ k) : Calls Try.prog 52 #[.int .u64 X, .int .i64 S] w (RetBE 5 w (Varint.bytesN k n) 0) := by
  subst hX; subst hS
  have h8 : 256 ^ k ≤ 256 ^ 8 := Nat.pow_le_pow_right (by decide) hk
  have h := Fixed_any n (k : Int) w (by omega) (by omega) (by omega)
  have e : Varint.fixedF n (k : Int) = (Varint.bytesN k n, 0) := by
    unfold Varint.fixedF
    rw [if_neg (by omega), if_neg (by rw [Int.toNat_natCast]; exact fun h => h (Nat.div_eq_of_lt hn))]
    rfl
  rw [e] at h
  exact h
set_option maxRecDepth 100000 in
theorem fixed_any (B : Nat) (adb : Option Addr) (capb : Nat) (l : List UInt8) (X S : Int) (n k : Nat) (w : World) (hX : X = (n : Int)) (hS : S = (k : Int)) (ho : Owns w B 5 1 adb capb l.length (bv l)) (hB : B ≤ w.heap.size)
    (hk : k ≤ 8) (hn : n < 256 ^ k) (hl : l.length ≤ 70368744177664) :
    Calls Try.prog 31 #[.slice adb l.length capb, .int .i64 X, .int .i64 S] w (RetApp B 5 adb w (l ++ Varint.bytesN k n)) := by
  subst hX hS
  have h8 : 256 ^ k ≤ 256 ^ 8 := Nat.pow_le_pow_right (by decide) hk
  have hn9 : n < 18446744073709551616 := by omega
  have HN := Lib.hid hn
  clear hn h8
  have HF := Lib.hid (fun w X hX => Fixed_at X n k (k : Int) w hX rfl hk HN.out)
  have hbl := Varint.bytesN_len k n
  have hbl8 : (Varint.bytesN k n).length ≤ 8 := by omega
  have m1 : l.length + (Varint.bytesN k n).length ≤ maxLen := by unfold maxLen; omega
  have m1' : (l.length + (Varint.bytesN k n).length) * 1 ≤ 140737488355328 := by omega
  generalize Varint.bytesN k n = x at *
  clear hbl
  go_enter Try.func31, Try.ntmps31
  go_wp2_with (first
    | (go_at_call 52; refine (HF.out _ _ (by simp)).mono ?_; rintro e w1 ⟨ad1, c1, rfl, o1, g1⟩; have ho1 := ho.gr g1; have hB1 := Nat.le_trans hB g1.size)
    | (at_builtin; refine wp_append elemB rfl _ _ rfl rfl ho1 rfl (Src.bytes o1.bytes rfl Try.underlying26) m1 m1' hB1 ?_; intro ad2 c2 w2 o2 k2 f2))
  go_ret
  refine ⟨ad2, c2, by rw [List.length_append]; rfl, by rw [List.length_append, bv_append]; exact o2, AppTo.back g1 ((AppTo.refl w1 adb).step k2 f2)⟩
end Go.Proofs.Ytnbinodhdgnjlaa
