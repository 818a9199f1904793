/- Layer 8 (frame): FrameBlocks answers true. -/
import Derived.Test.YtmjhffohfppnaaaFrameGoes
namespace Go.Proofs.Ytmjhffohfppnaaa
set_option linter.unusedVariables false
set_option linter.unusedSimpArgs false
open Go.RowKit Fr
theorem Frame_from (X : Int) (a : Nat) (ad : Option Addr) (cap : Nat) (r : List UInt8) (n : Nat) (w : World) (hX : X = (a : Int)) (ha : a ≤ 9223372036854775807) (hn : n = r.length) (hl : r.length ≤ 1000000) (hc : r.length ≤ cap) (hm : cap ≤ maxLen) (hb : Bytes w ad r) :
    Calls Try.prog 12 #[.int .i64 X, .slice ad n cap] w (RetBE 5 w (frameF a r) 0) := by
  subst hX; exact Frame_at a ad cap r n w ha hn hl hc hm hb
theorem full_len (k : Nat) (Z : List UInt8) (hZ : Z.length = 121 * (1 + k)) : (frameF 0 Z).length = 128 * (1 + k) := by
  have p0 : padF 0 = 0 := by decide
  have r0 : roomF 0 = 121 := by decide
  rw [frameF_length, p0, r0, hZ]
  split <;> omega
set_option maxRecDepth 100000 in
set_option maxHeartbeats 8000000 in
theorem FrameBlocks_any (aa bb : Int) (ad : Option Addr) (cap : Nat) (l : List UInt8) (w : World) (hc : l.length ≤ cap) (hm : cap ≤ maxLen) (hb : Bytes w ad l) :
    Calls Try.prog 9 #[.agg #[.int .i64 aa, .int .i64 bb, .slice ad l.length cap]] w fun e w' => e = .returned (.bool true) ∧ Gr w w' := by
  have hmx : maxLen ≤ 9223372036854775807 := by decide
  have HB := Lib.hid hb
  clear hb
  have HT1 : RowKit.Hid True := trivial
  by_cases h3 : 3000 < l.length
  · go_enter Try.func9, Try.ntmps9
    go_wp2_with (first
      | (go_at_call 10; clear HT1; refine (framed_any _).mono ?_; rintro e w1 ⟨rfl, g1⟩; obtain ⟨c0, c1, c2, _⟩ := (Blk.of1 g1).three)
      | (go_at_call 10; refine (framed_any _).mono ?_; rintro e w2 ⟨rfl, g2⟩))
    go_ret
    exact ⟨rfl, ((Gr.alloc _ _).trans g1).trans g2⟩
  · obtain ⟨a, e1, ha⟩ := u64_mod aa 100000 (by decide) (by decide)
    obtain ⟨n, e2, hn⟩ := u64_mod bb 1000 (by decide) (by decide)
    have e1 : IntKind.i64.wrap ((IntKind.u64.wrap aa).tmod 100000) = (a : Int) := e1
    have e2 : IntKind.i64.wrap ((IntKind.u64.wrap bb).tmod 1000) = (n : Int) := e2
    obtain ⟨k, hk⟩ : ∃ k, k = n % 5 := ⟨_, rfl⟩
    have e5 : (n : Int) % 5 = (k : Int) := by omega
    have hk5 : k < 5 := by omega
    obtain ⟨Z, hZ⟩ : ∃ Z : List UInt8, Z = List.replicate (121 * (1 + k)) 0 := ⟨_, rfl⟩
    have hZl : Z.length = 121 * (1 + k) := by rw [hZ]; simp
    have hFl := full_len k Z hZl
    have hsame : frameF (a + 128 * n) l = frameF a l := frameF_mod _ _ _ (by omega)
    have hsame2 : frameF (128 * (1 + k)) l = frameF 0 l := frameF_mod _ _ _ (by omega)
    have hscan : scanF (frameF 0 Z ++ frameF 0 l) = ([Z, l], (frameF 0 Z).length + (frameF 0 l).length) := by
      have := scan_all [Z, l]
      simp only [laysF, Nat.zero_add, hFl, hsame2, List.append_nil, List.length_append] at this
      rw [hFl]; exact this
    have hscan2 := scan_one l 0 rfl
    have hl1 := frameF_len a l
    have hl2 := frameF_len 0 l
    have HF1 := Lib.hid (fun w' X n' (hX : X = (a : Int)) (hn : n' = l.length) hb => Frame_from X a ad cap l n' w' hX (by omega) hn (by omega) hc hm hb)
    have HF2 := Lib.hid (fun w' X n' (hX : X = ((a + 128 * n : Nat) : Int)) (hn : n' = l.length) hb => Frame_from X (a + 128 * n) ad cap l n' w' hX (by omega) hn (by omega) hc hm hb)
    have HF3 := Lib.hid (fun w' adz capz n' (hn : n' = Z.length) h1 h2 hb => Frame_from 0 0 adz capz Z n' w' rfl (by omega) hn (by omega) h1 h2 hb)
    have HF4 := Lib.hid (fun w' X n' (hX : X = ((128 * (1 + k) : Nat) : Int)) (hn : n' = l.length) hb => Frame_from X (128 * (1 + k)) ad cap l n' w' hX (by omega) hn (by omega) hc hm hb)
    rw [hsame] at HF2
    rw [hsame2] at HF4
    have HZ := Lib.hid hZ; have HZL := Lib.hid hZl
    clear hZ hZl hsame hsame2 hk
    generalize frameF a l = F at *
    generalize frameF 0 Z = fz at *
    generalize frameF 0 l = C at *
    have HSC := Lib.hid hscan; have HSC2 := Lib.hid hscan2
    have HFL := Lib.hid hFl
    clear hscan hscan2 hFl
    have e6 : (128 * (1 + (k : Int))) % 128 = 0 := by omega
    have hCl : C.length ≤ 24020 := by omega
    have hFl2 : F.length ≤ 24020 := by omega
    clear hl1 hl2
    go_enter Try.func9, Try.ntmps9
    go_wp2_with (first
      | (go_at_call 10; clear HT1; refine (framed_any _).mono ?_; rintro e w1 ⟨rfl, g1⟩; obtain ⟨c0, c1, c2, _⟩ := (Blk.of1 g1).three))
    go_quiet (fail)
    have gq : Gr w (w1.drewN nq) := ((Gr.alloc _ _).trans g1).trans (Gr.drewN _ _)
    have cq := (Gr.drewN w1 nq).cell c2
    clear c0 c1 c2 g1
    have T1 : RowKit.Hid True := trivial
    have T2 : RowKit.Hid True := trivial
    have T3 : RowKit.Hid True := trivial
    have T4 : RowKit.Hid True := trivial
    have T5 : RowKit.Hid True := trivial
    go_wp2_with (first
      | (go_at_call 12; clear T1; go_must (refine (HF1.out _ _ _ rfl rfl (HB.out.gr gq)).mono ?_; rintro e w2 ⟨ad2, c2_, rfl, o2, g2⟩; have g02 := gq.trans g2; have cc2 := g2.cell cq; clear cq))
      | (go_at_call 12; clear T2; go_must (refine (HF2.out _ _ _ (by omega) rfl (HB.out.gr g02)).mono ?_; rintro e w3 ⟨ad3, c3_, rfl, o3, g3⟩; have g03 := g02.trans g3; have cc3 := g3.cell cc2; clear cc2; have hs1 := run_string (P := Try.prog) Try.underlying22 Try.underlying5 Try.underlying9 (cap := c2_) rfl (o2.gr g3).bytes; have hs2 := run_string (P := Try.prog) Try.underlying22 Try.underlying5 Try.underlying9 (cap := c3_) rfl o3.bytes))
      | (at_make; go_must (refine wp_make elemB rfl rfl _ _ rfl (121 * (1 + k)) (121 * (1 + k)) rfl rfl (by omega) (by omega) (Nat.le_refl _) (by unfold maxLen; omega) (by omega) ?_; intro w4 o4 g4 s4; rw [bv_replicate, ← HZ.out] at o4; have g04 := g03.trans g4; have cc4 := g4.cell cc3; clear cc3))
      | (go_at_call 12; clear T3; go_must (refine (HF3.out _ _ _ _ HZL.out.symm (by rw [HZL.out]; exact Nat.le_refl _) (by unfold maxLen; omega) o4.bytes).mono ?_; rintro e w5 ⟨ad5, c5_, rfl, o5, g5⟩; rw [HFL.out] at o5 ⊢; have g05 := g04.trans g5; have cc5 := g5.cell cc4; clear cc4))
      | (go_at_call 12; clear T4; go_must (refine (HF4.out _ _ _ (by omega) rfl (HB.out.gr g05)).mono ?_; rintro e w6 ⟨ad6, c6_, rfl, o6, g6⟩; have g06 := g05.trans g6; have cc6 := g6.cell cc5; clear cc5; have o56 := o5.gr g6))
      | (at_builtin; refine wp_append elemB rfl _ _ rfl rfl (Owns.blank w6 w6.heap.size 5 (Nat.le_refl _)) rfl (Src.bytes (o56.gr (Gr.alloc _ _)).row.bytes HFL.out Try.underlying22) (by unfold maxLen; omega) (by omega) (by simp) ?_; intro ad7 c7 w7 o7 k7 f7; have G7 := (Gr.alloc w6 (.cells #[] 5)).of_far k7 (Nat.le_refl _); rw [List.nil_append, Nat.zero_add] at o7; have o67 := o6.gr G7; clear o56)
      | (at_builtin; go_must (refine wp_append elemB rfl _ _ rfl rfl o7 rfl (Src.bytes o67.bytes rfl Try.underlying22) (by unfold maxLen; omega) (by omega) G7.size ?_; intro ad8 c8 w8 o8 k8 f8; have G8 := G7.grown k8 (row_from o7); rw [← bv_append] at o8; have hc8 := o8.2.1; have hm8 := o8.2.2.1; have g08 := g06.trans G8))
      | (go_at_call 16; clear T5; go_must (refine (Scan_at (fz ++ C) _ _ _ _ (by rw [List.length_append, HFL.out]) (by rw [List.length_append, HFL.out]; omega) (by rw [List.length_append, HFL.out]; exact hc8) hm8 o8.row.bytes).mono ?_; rw [HSC.out]; rintro e w9 ⟨ad9, c9, rfl, o9, g9⟩; dsimp only at o9; rw [HFL.out]; have g09 := g08.trans g9; have cc9 := (G8.trans g9).cell cc6))
      | (go_at_call 16; go_must (refine (Scan_at C _ _ _ _ rfl (by omega) o6.2.1 o6.2.2.1 ((o6.gr G8).gr g9).bytes).mono ?_; rw [HSC2.out]; rintro e w10 ⟨ad10, c10, rfl, o10, g10⟩; dsimp only at o10)))
    have g0t := g09.trans g10
    have hc9 := o9.2.1
    have hc10 := o10.2.1
    obtain ⟨b9, rfl, _, cz⟩ := (o9.gr g10).at (i := 1) (u := .string (str l)) rfl
    obtain ⟨b10, rfl, _, cm⟩ := o10.at (i := 0) (u := .string (str l)) rfl
    have HR1 := Lib.hid (show Row w10 (some ⟨b9, 1, .none⟩) (sv [l]) from fun i u hi => by
      match i, hi with
      | 0, hi => cases hi; exact ⟨b9, 1, rfl, cz⟩
      | i + 1, hi => simp [sv] at hi)
    have HR2 := Lib.hid o10.row
    have ct := g10.cell cc9
    have hc92 : 1 < c9 := by simp only [List.length_cons, List.length_nil] at hc9; omega
    simp only [List.length_cons, List.length_nil] at hc9 hc10
    clear o2 o3 o4 o5 o6 o7 o8 o9 o67 o10 cc6 cc9 hs1 hs2
    have hne9 : (c9 = 1) = False := by simp; omega
    have e7 : IntKind.i64.wrap (128 * (1 + (k : Int)) + (C.length : Int)) = 128 * (1 + (k : Int)) + (C.length : Int) := IntWalk.i64_in _ ⟨by omega, by omega⟩
    refine region_any_gr _ [Is ?r0, Is ?r1, Is ?r2, Is ?r3, Is ?r4, Is ?r5, Is ?r6, Is (.bool true), Is ?r8, Is ?r9, Is ?r10, Is ?r11, Is ?r12, Is ?r13, Is ?r14, Is ?r15, Is ?r16, Is (.string (str l)), Is ?r18, Is (.slice ad l.length cap), Is (.string (str l)), Is ?r21, Is ?r22, Is ?r23, Is ?r24, Is ?r25, Is ?r26, Is ?r27, Is ?r28, Is ?r29, Is ?r30, Is ?r31] (by kernel_rfl) (by kernel_rfl) (by kernel_rfl) rfl rfl ⟨Is.stable _, Is.stable _, Is.stable _, Is.stable _, Is.stable _, Is.stable _, Is.stable _, Is.stable _, Is.stable _, Is.stable _, Is.stable _, Is.stable _, Is.stable _, Is.stable _, Is.stable _, Is.stable _, Is.stable _, Is.stable _, Is.stable _, Is.stable _, Is.stable _, Is.stable _, Is.stable _, Is.stable _, Is.stable _, Is.stable _, Is.stable _, Is.stable _, Is.stable _, Is.stable _, Is.stable _, Is.stable _, trivial⟩ ⟨?s0, ?s1, ?s2, ?s3, ?s4, ?s5, ?s6, ?s7, ?s8, ?s9, ?s10, ?s11, ?s12, ?s13, ?s14, ?s15, ?s16, ?s17, ?s18, ?s19, ?s20, ?s21, ?s22, ?s23, ?s24, ?s25, ?s26, ?s27, ?s28, ?s29, ?s30, ?s31, trivial⟩ ?fin
    case' s0 | s1 | s2 | s3 | s4 | s5 | s6 | s7 | s8 | s9 | s10 | s11 | s12 | s13 | s14 | s15 | s16 | s17 | s18 | s19 | s20 | s21 | s22 | s23 | s24 | s25 | s26 | s27 | s28 | s29 | s30 | s31 =>
      intro ρ wr hρ hg hK
      simp [readsOf, slotsOf, Op.operands, Call.operands, tmpOf, List.filterMap_cons, List.filterMap_nil, KnownAll, knownOf, srcOf, depsOf, dstOf, Region.binds, nth, Is] at hK
      obtain ⟨hc, hf, hgl⟩ := hρ
      try simp only [wantedBy, dstOf, boolOf, nth, List.getD_cons_zero, List.getD_cons_succ, List.getElem?_cons_zero, List.getElem?_cons_succ, Option.bind_some, if_true, hK, BEq.rfl]
      try go_simp
      first | exact rfl | (rw [if_pos (by omega)]; exact is_here rfl) | (rw [dif_pos (by omega)]; exact is_here rfl) | exact congrArg (Value.int _) (IntWalk.i64_in _ ⟨by omega, by omega⟩) | skip
    case s7 => exact any_gr (Texts_same _ _ _ _ _ _ [l] _ rfl rfl (by simp) (HR1.out.gr hg) (HR2.out.gr hg))
    case s17 => have q := hg.cell cm; go_simp; exact rfl
    case s19 => have q := hg.cell ct; go_simp; exact rfl
    case s20 =>
      have hs := run_string (P := Try.prog) Try.underlying22 Try.underlying5 Try.underlying9 (cap := cap) rfl (HB.out.gr (g0t.trans hg))
      go_simp
      exact rfl
    case fin =>
      intro w1 val hg hH
      simp only [Holds, Is, Nat.zero_add, Nat.reduceAdd] at hH
      obtain ⟨h0, h1, h2, h3, h4, h5, h6, h7, h8, h9, h10, h11, h12, h13, h14, h15, h16, h17, h18, h19, h20, h21, h22, h23, h24, h25, h26, h27, h28, h29, h30, h31, _⟩ := hH
      simp only [List.take_succ_cons, List.take_zero, List.drop_succ_cons, List.drop_zero, putAll, h0, h1, h2, h3, h4, h5, h6, h7, h8, h9, h10, h11, h12, h13, h14, h15, h16, h17, h18, h19, h20, h21, h22, h23, h24, h25, h26, h27, h28, h29, h30, h31, Nat.zero_add, Nat.reduceAdd]
      go_simp
      go_wp2
      go_ret
      exact ⟨rfl, g0t.trans hg⟩
end Go.Proofs.Ytmjhffohfppnaaa
