/- Layer 4 (crc): CrcParts answers true. -/
import Derived.Test.YtpebdkkcbhlidaaDoorCrcJoin
namespace Go.Proofs.YtpebdkkcbhlidaaDoor
set_option linter.unusedVariables false
set_option linter.unusedSimpArgs false
open Go.RowKit Crc
theorem rem_of (i : Int) (len : Nat) (h : len ≤ 9223372036854775806) : ∃ a : Nat, a ≤ len ∧ (IntKind.u64.wrap i).tmod ((len : Int) + 1) = (a : Int) := by
  rw [IntKind.wrap_u64]
  have h0 : 0 ≤ i % 18446744073709551616 := Int.emod_nonneg _ (by decide)
  rw [Int.tmod_eq_emod_of_nonneg h0]
  have h1 := Int.emod_nonneg (i % 18446744073709551616) (show (len : Int) + 1 ≠ 0 by omega)
  have h2 := Int.emod_lt_of_pos (i % 18446744073709551616) (show (0 : Int) < (len : Int) + 1 by omega)
  exact ⟨(i % 18446744073709551616 % ((len : Int) + 1)).toNat, by omega, by omega⟩
theorem Bytes.cut2 {w : World} {ad : Option Addr} {l : List UInt8} (h : Bytes w ad l) (cap k n : Nat) (hk : k + n ≤ l.length) (hc : l.length ≤ cap) :
    Bytes w (if cap = k then ad else Option.map (fun x => x.add k) ad) ((l.drop k).take n) := by
  split
  · have hn : n = 0 := by omega
    subst hn
    intro i hi
    simp at hi
  · exact h.cut k n hk
/-- what the law's joins and sums come to -/
theorem parts_laws (X Y Z : List UInt8) (m n : Nat) (hm : Y.length = m) (hn : Z.length = n) :
    joinF (sumF X) (sumF Y) m = sumF (X ++ Y) ∧ joinF (sumF Y) (sumF Z) n = sumF (Y ++ Z) ∧ joinF (sumF (X ++ Y)) (sumF Z) n = sumF (X ++ (Y ++ Z)) ∧ joinF (sumF X) (sumF (Y ++ Z)) (m + n) = sumF (X ++ (Y ++ Z)) ∧ moreF (sumF X) Y = sumF (X ++ Y) ∧ moreF (sumF (X ++ Y)) Z = sumF (X ++ (Y ++ Z)) := by
  subst hm hn
  refine ⟨(sumF_join _ _).symm, (sumF_join _ _).symm, ?_, ?_, ?_, ?_⟩
  · rw [← List.append_assoc, ← sumF_join]
  · rw [← List.length_append, ← sumF_join]
  · unfold sumF; rw [← moreF_append]
  · rw [← List.append_assoc]; unfold sumF; rw [← moreF_append]
set_option maxRecDepth 100000 in
set_option maxHeartbeats 2000000 in
theorem CrcParts_any (ad : Option Addr) (cap : Nat) (l : List UInt8) (i j : Int) (w : World) (hlc : l.length ≤ cap) (hm : l.length ≤ 140737488351232) (hb : Bytes w ad l) (hT : Tab w) :
    Calls Tryd.prog 3 #[.slice ad l.length cap, .int .i64 i, .int .i64 j] w fun e w' => e = .returned (.bool true) ∧ Gr w w' := by
  have HB := Lib.hid hb; have HT := Lib.hid hT
  obtain ⟨a, ha, ea⟩ := rem_of i l.length (by omega)
  obtain ⟨b, hb2, eb⟩ := rem_of j l.length (by omega)
  clear hb hT
  go_enter Tryd.func3, Tryd.ntmps3
  go_wp2
  refine region_any_gr _ [Is ?r0, Is (.int .u64 (IntKind.u64.wrap i)), Is ?r2, Is (.int .u64 (a : Int)), Is (.int .i64 (a : Int)), Is ?r5, Is (.int .u64 (IntKind.u64.wrap j)), Is ?r7, Is (.int .u64 (b : Int)), Is (.int .i64 (b : Int)), Is ?r10, Is ?r11] (by kernel_rfl) (by kernel_rfl) (by kernel_rfl) rfl rfl ⟨Is.stable _, Is.stable _, Is.stable _, Is.stable _, Is.stable _, Is.stable _, Is.stable _, Is.stable _, Is.stable _, Is.stable _, Is.stable _, Is.stable _, trivial⟩ ⟨?s0, ?s1, ?s2, ?s3, ?s4, ?s5, ?s6, ?s7, ?s8, ?s9, ?s10, ?s11, trivial⟩ ?fin
  case' s0 | s1 | s2 | s3 | s4 | s5 | s6 | s7 | s8 | s9 | s10 | s11 =>
    intro ρ wr hρ hg hK
    simp [readsOf, slotsOf, Op.operands, Call.operands, tmpOf, List.filterMap_cons, List.filterMap_nil, KnownAll, knownOf, srcOf, depsOf, dstOf, Region.binds, nth, Is] at hK
    obtain ⟨hc, hf, hgl⟩ := hρ
    try simp only [wantedBy, dstOf, boolOf, nth, List.getD_cons_zero, List.getD_cons_succ, List.getElem?_cons_zero, List.getElem?_cons_succ, Option.bind_some, if_true, hK, BEq.rfl]
    try go_simp
    first | exact rfl | (rw [if_pos (by omega)]; exact is_here rfl) | (rw [dif_pos (by omega)]; exact is_here rfl) | exact congrArg (Value.int _) (IntWalk.i64_in _ ⟨by omega, by omega⟩) | skip
  case s3 | s8 => rw [if_neg (by omega)]; exact ⟨Gr.refl _, rfl⟩
  case fin =>
    intro w1 val hg hH
    simp only [Holds, Is, Nat.zero_add, Nat.reduceAdd] at hH
    obtain ⟨h0, h1, h2, h3, h4, h5, h6, h7, h8, h9, h10, h11, _⟩ := hH
    simp only [List.take_succ_cons, List.take_zero, List.drop_succ_cons, List.drop_zero, putAll, h0, h1, h2, h3, h4, h5, h6, h7, h8, h9, h10, h11, Nat.zero_add, Nat.reduceAdd]
    go_simp
    clear ea eb
    obtain ⟨p, q, hpq, hql, ep, eq⟩ : ∃ p q : Nat, p ≤ q ∧ q ≤ l.length ∧ min (a : Int) (b : Int) = (p : Int) ∧ max (a : Int) (b : Int) = (q : Int) := ⟨min a b, max a b, by omega, by omega, by omega, by omega⟩
    go_wp2
    clear ep eq ha hb2 h0 h1 h2 h3 h4 h5 h6 h7 h8 h9 h10 h11
    have hpc : p ≤ cap := by omega
    have hqc : q ≤ cap := by omega
    generalize w1 = W1 at *
    have HG1 := Lib.hid hg
    clear hg
    refine region_any_gr _ [Is ?r0x1, Is ?r1x1, Is ?r2x1, Is ?r3x1, Is ?r4x1, Is ?r5x1, Is ?r6x1, Is ?r7x1, Is ?r8x1, Is ?r9x1, Is ?r10x1, Is ?r11x1, Is ?r12x1] (by kernel_rfl) (by kernel_rfl) (by kernel_rfl) rfl rfl ⟨Is.stable _, Is.stable _, Is.stable _, Is.stable _, Is.stable _, Is.stable _, Is.stable _, Is.stable _, Is.stable _, Is.stable _, Is.stable _, Is.stable _, Is.stable _, trivial⟩ ⟨?s0x1, ?s1x1, ?s2x1, ?s3x1, ?s4x1, ?s5x1, ?s6x1, ?s7x1, ?s8x1, ?s9x1, ?s10x1, ?s11x1, ?s12x1, trivial⟩ ?finx1
    case' s0x1 | s1x1 | s2x1 | s3x1 | s4x1 | s5x1 | s6x1 | s7x1 | s8x1 | s9x1 | s10x1 | s11x1 | s12x1 =>
      intro ρ wr hρ hg hK
      simp [readsOf, slotsOf, Op.operands, Call.operands, tmpOf, List.filterMap_cons, List.filterMap_nil, KnownAll, knownOf, srcOf, depsOf, dstOf, Region.binds, nth, Is] at hK
      obtain ⟨hc, hf, hgl⟩ := hρ
      try simp only [wantedBy, dstOf, boolOf, nth, List.getD_cons_zero, List.getD_cons_succ, List.getElem?_cons_zero, List.getElem?_cons_succ, Option.bind_some, if_true, hK, BEq.rfl]
      try go_simp
      first | exact rfl | (rw [if_pos (by omega)]; exact is_here rfl) | (rw [dif_pos (by omega)]; exact is_here rfl) | exact congrArg (Value.int _) (IntWalk.i64_in _ ⟨by omega, by omega⟩) | skip
    case finx1 =>
      intro w1 val hg hH
      simp only [Holds, Is, Nat.zero_add, Nat.reduceAdd] at hH
      obtain ⟨h0, h1, h2, h3, h4, h5, h6, h7, h8, h9, h10, h11, h12, _⟩ := hH
      simp only [List.take_succ_cons, List.take_zero, List.drop_succ_cons, List.drop_zero, putAll, h0, h1, h2, h3, h4, h5, h6, h7, h8, h9, h10, h11, h12, Nat.zero_add, Nat.reduceAdd]
      go_simp
      have HX := Lib.hid (HB.out.take p)
      have HY := Lib.hid (HB.out.cut2 cap p (q - p) (by omega) hlc)
      have HZ := Lib.hid (HB.out.cut2 cap q (l.length - q) (by omega) hlc)
      generalize (if cap = p then ad else Option.map (fun x => x.add p) ad) = adY at *
      generalize (if cap = q then ad else Option.map (fun x => x.add q) ad) = adZ at *
      have lX : (l.take p).length = p := by rw [List.length_take]; omega
      have lY : ((l.drop p).take (q - p)).length = q - p := by rw [List.length_take, List.length_drop]; omega
      have lZ : ((l.drop q).take (l.length - q)).length = l.length - q := by rw [List.length_take, List.length_drop]; omega
      have eL : l = l.take p ++ ((l.drop p).take (q - p) ++ (l.drop q).take (l.length - q)) := by
        have h1 : (l.drop q).take (l.length - q) = l.drop q := List.take_of_length_le (by rw [List.length_drop]; exact Nat.le_refl _)
        have h2 : l.drop q = (l.drop p).drop (q - p) := by rw [List.drop_drop]; congr 1; omega
        rw [h1, h2, List.take_append_drop, List.take_append_drop]
      obtain ⟨X, hX⟩ : ∃ X, X = l.take p := ⟨_, rfl⟩
      obtain ⟨Y, hY⟩ : ∃ Y, Y = (l.drop p).take (q - p) := ⟨_, rfl⟩
      obtain ⟨Z, hZ⟩ : ∃ Z, Z = (l.drop q).take (l.length - q) := ⟨_, rfl⟩
      rw [← hX] at HX lX eL
      rw [← hY] at HY lY eL
      rw [← hZ] at HZ lZ eL
      clear hX hY hZ
      have m63 : l.length ≤ maxLen := by unfold maxLen; omega
      have CL := Lib.hid (fun w' (g : Gr w w') => sum_any ad l.length cap l w' rfl m63 (HB.out.gr g))
      have CX := Lib.hid (fun w' (g : Gr w w') => sum_any ad p cap X w' lX (by omega) (HX.out.gr g))
      have CY := Lib.hid (fun w' (g : Gr w w') => sum_any adY (q - p) (cap - p) Y w' lY (by omega) (HY.out.gr g))
      have CZ := Lib.hid (fun w' (g : Gr w w') => sum_any adZ (l.length - q) (cap - q) Z w' lZ (by omega) (HZ.out.gr g))
      obtain ⟨j1, j2, j3, j4, n1, n2⟩ := parts_laws X Y Z (q - p) (l.length - q) lY lZ
      rw [← eL] at j3 j4 n2
      have CM1 := Lib.hid (fun w' (g : Gr w w') => more_any (sumF X) adY (q - p) (cap - p) Y w' lY (by omega) (HY.out.gr g))
      have CM2 := Lib.hid (fun w' (g : Gr w w') => more_any (sumF (X ++ Y)) adZ (l.length - q) (cap - q) Z w' lZ (by omega) (HZ.out.gr g))
      have CJ1 := Lib.hid (fun w' (g : Gr w w') => join_any (sumF X) (sumF Y) (q - p) w' (by omega) (HT.out.gr g))
      have CJ2 := Lib.hid (fun w' (g : Gr w w') => join_any (sumF Y) (sumF Z) (l.length - q) w' (by omega) (HT.out.gr g))
      have CJ3 := Lib.hid (fun w' (g : Gr w w') => join_any (sumF (X ++ Y)) (sumF Z) (l.length - q) w' (by omega) (HT.out.gr g))
      have CJ4 := Lib.hid (fun w' (g : Gr w w') => join_any (sumF X) (sumF (Y ++ Z)) (q - p + (l.length - q)) w' (by omega) (HT.out.gr g))
      rw [j1] at CJ1; rw [j2] at CJ2; rw [j3] at CJ3; rw [j4] at CJ4; rw [n1] at CM1; rw [n2] at CM2
      simp only [Int.natCast_add] at CJ4
      have GA := HG1.out.trans hg
      clear j1 j2 j3 j4 n1 n2 eL lX lY lZ HX HY HZ m63
      generalize sumF (X ++ Y) = SXY at *
      generalize sumF (Y ++ Z) = SYZ at *
      generalize sumF X = SX at *
      generalize sumF Y = SY at *
      generalize sumF Z = SZ at *
      generalize sumF l = SL at *
      go_wp2_with (first
        | (go_at_call 4; (with_reducible refine (CL.out _ GA).mono ?_); rintro e w' ⟨rfl, rfl⟩)
        | (go_at_call 4; (with_reducible refine (CX.out _ GA).mono ?_); rintro e w' ⟨rfl, rfl⟩)
        | (go_at_call 4; (with_reducible refine (CY.out _ GA).mono ?_); rintro e w' ⟨rfl, rfl⟩)
        | (go_at_call 4; (with_reducible refine (CZ.out _ GA).mono ?_); rintro e w' ⟨rfl, rfl⟩)
        | (go_at_call 7; (with_reducible refine (CM1.out _ GA).mono ?_); rintro e w' ⟨rfl, rfl⟩)
        | (go_at_call 7; (with_reducible refine (CM2.out _ GA).mono ?_); rintro e w' ⟨rfl, rfl⟩)
        | (go_at_call 5; (with_reducible refine (CJ1.out _ GA).mono ?_); rintro e w2 ⟨rfl, k⟩; replace GA := GA.trans k; clear k)
        | (go_at_call 5; (with_reducible refine (CJ2.out _ GA).mono ?_); rintro e w2 ⟨rfl, k⟩; replace GA := GA.trans k; clear k)
        | (go_at_call 5; (with_reducible refine (CJ3.out _ GA).mono ?_); rintro e w2 ⟨rfl, k⟩; replace GA := GA.trans k; clear k)
        | (go_at_call 5; (with_reducible refine (CJ4.out _ GA).mono ?_); rintro e w2 ⟨rfl, k⟩; replace GA := GA.trans k; clear k)
        | (go_at_call 6; (with_reducible refine (sums_any _).mono ?_); rintro e w2 ⟨rfl, k⟩; replace GA := GA.trans k; clear k)
        | fail)
      go_ret
      exact ⟨rfl, GA⟩
end Go.Proofs.YtpebdkkcbhlidaaDoor
