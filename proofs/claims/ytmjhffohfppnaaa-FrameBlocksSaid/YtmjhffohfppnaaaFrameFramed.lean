/- Layer 8 (frame): framed answers true. -/
import Derived.Test.YtmjhffohfppnaaaFrameTexts
namespace Go.Proofs.Ytmjhffohfppnaaa
set_option linter.unusedVariables false
set_option linter.unusedSimpArgs false
open Go.RowKit Fr
theorem piece_kind (k : UInt8) (s t : List UInt8) (i : Nat) (h : i = 6) : (pieceF k s ++ t)[i]? = some k := by
  subst h
  simp [pieceF, Varint.bytesN]
theorem frame_122 : ∀ Z : List UInt8, Z.length = 122 → (frameF 0 Z).length = 136 ∧ (frameF 0 Z)[6]? = some 2 ∧ (frameF 0 Z)[134]? = some 4 := by
  intro Z hZ
  have e : frameF 0 Z = pieceF 2 (Z.take 121) ++ pieceF 4 (Z.drop 121) := by
    have r0 : roomF 0 = 121 := by decide
    have p0 : padF 0 = 0 := by decide
    have r1 : roomF 128 = 121 := by decide
    rw [frameF_start, Nat.zero_mod, p0, List.replicate_zero, List.nil_append, Nat.zero_add, layF_on p0 (by rw [hZ, r0]; decide), r0, layF_end (by rw [List.length_drop, hZ, show 0 + 7 + 121 = 128 from rfl, r1]; decide)]
    have k1 : kindF true false = 2 := by decide
    have k2 : kindF false true = 4 := by decide
    rw [k1, k2]
  have l1 : (pieceF 2 (Z.take 121)).length = 128 := by rw [pieceF_len, List.length_take, hZ]; rfl
  have l2 : (pieceF 4 (Z.drop 121)).length = 8 := by rw [pieceF_len, List.length_drop, hZ]
  rw [e]
  refine ⟨by rw [List.length_append, l1, l2], piece_kind _ _ _ _ rfl, ?_⟩
  rw [List.getElem?_append_right (by omega), l1]
  have := piece_kind 4 (Z.drop 121) [] 6 rfl
  rwa [List.append_nil] at this
theorem scan_one (r : List UInt8) (a : Nat) (h : a % 128 = 0) : scanF (frameF a r) = ([r], (frameF a r).length) := by
  rw [frameF_mod a 0 r h]
  have := scan_all [r]
  simpa [laysF] using this
theorem make_any {P : Program} {t e : TypeId} {z : Value} {bytes : Nat} (E : Elem P t e z 1 bytes) (hz1 : z.cells = #[z]) (w : World) (kl kc : IntKind) (n : Nat) (L C : Int) (hL : L = (n : Int)) (hC : C = (n : Int)) (h63 : n ≤ maxLen) (hbytes : bytes * n ≤ 281474976710656) :
    ∃ w', (Instr.makeSlice t (.int kl L) (.int kc C)).run P w = .ok (.slice (some ⟨w.heap.size, 0, none⟩) n n) w' ∧ Owns w' w.heap.size e 1 (some ⟨w.heap.size, 0, none⟩) n n (List.replicate n z) ∧ Gr w w' := by
  obtain ⟨ht, hinfo, hzs, hpos⟩ := E
  obtain ⟨i, hi, hz, hsize, hby⟩ := info_parts hinfo
  subst hL
  subst hC
  have h63' : (n : Int) ≤ 9223372036854775807 := by simp [maxLen] at h63; omega
  have hb' : (i.bytes : Int) * (n : Int) ≤ 281474976710656 := by
    have h : ((i.bytes * n : Nat) : Int) ≤ 281474976710656 := by rw [hby]; omega
    rwa [Int.natCast_mul] at h
  have hr := run_make (P := P) w t e i z ht hi hz kl kc n n (by omega) (by omega) hb' h63'
  simp only [Int.toNat_natCast] at hr
  refine ⟨_, hr, ?_, Gr.alloc _ _⟩
  refine Owns.made w _ _ e (0, 0) 1 n n _ (Nat.le_refl _) h63 (Nat.le_refl _) ?_ (by simp) ?_
  · rw [hsize, Nat.mul_one, hz1, ← Array.length_toList, toList_madeCells_one, List.length_replicate]
  · rw [hsize, Nat.mul_one, hz1, toList_madeCells_one, List.take_replicate, Nat.min_self]
set_option maxRecDepth 100000 in
set_option maxHeartbeats 4000000 in
theorem framed_any (w : World) : Calls Try.prog 10 #[] w fun e w' => e = .returned (.bool true) ∧ Gr w w' := by
  obtain ⟨Z, hZ⟩ : ∃ Z : List UInt8, Z = List.replicate 122 0 := ⟨_, rfl⟩
  have hZl : Z.length = 122 := by rw [hZ]; rfl
  obtain ⟨f1, f2, f3⟩ := frame_122 Z hZl
  have HSC := Lib.hid (scan_one Z 0 rfl)
  have HF := Lib.hid (fun w' adz capz n (hn : n = 122) (ho : Bytes w' adz Z) hc hm => Frame_at 0 adz capz Z n w' (by omega) (by omega) (by omega) hc hm ho)
  have HZ := Lib.hid hZ; clear hZ
  have HZL := Lib.hid hZl; clear hZl
  generalize frameF 0 Z = f at *
  have HFL := Lib.hid f1; have HF2 := Lib.hid f2; have HF3 := Lib.hid f3
  clear f1 f2 f3
  have HRM := Lib.hid (fun w => Room_any 122 w (by decide))
  rw [show roomF 122 = 121 by decide] at HRM
  go_enter Try.func10, Try.ntmps10
  go_wp2_with (first
    | (at_make; go_must (refine wp_make elemB rfl rfl _ _ rfl 122 122 rfl rfl rfl rfl (Nat.le_refl _) (by decide) (by decide) ?_); intro w1 o1 g1 s1; rw [bv_replicate, ← HZ.out] at o1)
    | (go_at_call 12; refine (HF.out _ _ _ _ rfl o1.bytes (by rw [HZL.out]; decide) (by decide)).mono ?_; rintro e w2 ⟨ad2, cap2, rfl, o2, g2⟩)
    | (go_at_call 16; refine (Scan_any f ad2 cap2 w2 (by rw [HFL.out]; decide) o2.2.1 o2.2.2.1 o2.bytes).mono ?_; rw [HSC.out]; rintro e w3 ⟨ad3, cap3, rfl, o3, g3⟩))
  have bvat : ∀ (i : Nat) (x : UInt8), f[i]? = some x → (bv f)[i]? = some (Value.int .u8 (x.toNat : Int)) := fun i x h => by simp [bv, h]
  obtain ⟨g, rfl, _, c6⟩ := (o2.gr g3).at (bvat 6 2 HF2.out)
  obtain ⟨g', e', _, c134⟩ := (o2.gr g3).at (bvat 134 4 HF3.out)
  cases e'
  obtain ⟨gl, rfl, _, cl⟩ := o3.at (i := 0) (u := .string (str Z)) rfl
  have hfl : (f.length : Int) = 136 := by rw [HFL.out]; rfl
  have hfl2 : f.length = 136 := HFL.out
  have hcap2 := o2.2.1
  have hcap3 := o3.2.1
  have x2 : (((2 : UInt8).toNat : Nat) : Int) = 2 := by decide
  have x4 : (((4 : UInt8).toNat : Nat) : Int) = 4 := by decide
  rw [x2] at c6; rw [x4] at c134
  clear x2 x4 bvat o2 o3 o1
  refine region_any_gr _ [Is ?r0, Is ?r1, Is ?r2, Is ?r3, Is ?r4, Is ?r5, Is ?r6, Is ?r7, Is ?r8, Is ?r9, Is (.int .u8 2), Is ?r11, Is ?r12, Is ?r13, Is ?r14, Is ?r15, Is (.int .u8 4), Is ?r17, Is ?r18, Is ?r19, Is ?r20, Is ?r21, Is ?r22, Is ?r23, Is ?r24, Is ?r25, Is ?r26, Is ?r27, Is ?r28, Is ?r29, Is ?r30, Is (.string (str Z)), ReadsB (Z), Is (.string (str Z)), Is ?r34, Is ?r35, Is ?r36, Is (.int .i64 121), Is ?r38, Is ?r39, Is ?r40] (by kernel_rfl) (by kernel_rfl) (by kernel_rfl) rfl rfl ⟨Is.stable _, Is.stable _, Is.stable _, Is.stable _, Is.stable _, Is.stable _, Is.stable _, Is.stable _, Is.stable _, Is.stable _, Is.stable _, Is.stable _, Is.stable _, Is.stable _, Is.stable _, Is.stable _, Is.stable _, Is.stable _, Is.stable _, Is.stable _, Is.stable _, Is.stable _, Is.stable _, Is.stable _, Is.stable _, Is.stable _, Is.stable _, Is.stable _, Is.stable _, Is.stable _, Is.stable _, Is.stable _, ReadsB.stable _, Is.stable _, Is.stable _, Is.stable _, Is.stable _, Is.stable _, Is.stable _, Is.stable _, Is.stable _, trivial⟩ ⟨?s0, ?s1, ?s2, ?s3, ?s4, ?s5, ?s6, ?s7, ?s8, ?s9, ?s10, ?s11, ?s12, ?s13, ?s14, ?s15, ?s16, ?s17, ?s18, ?s19, ?s20, ?s21, ?s22, ?s23, ?s24, ?s25, ?s26, ?s27, ?s28, ?s29, ?s30, ?s31, ?s32, ?s33, ?s34, ?s35, ?s36, ?s37, ?s38, ?s39, ?s40, trivial⟩ ?fin
  case' s0 | s1 | s2 | s3 | s4 | s5 | s6 | s7 | s8 | s9 | s10 | s11 | s12 | s13 | s14 | s15 | s16 | s17 | s18 | s19 | s20 | s21 | s22 | s23 | s24 | s25 | s26 | s27 | s28 | s29 | s30 | s31 | s32 | s33 | s34 | s35 | s36 | s37 | s38 | s39 | s40 =>
    intro ρ wr hρ hg hK
    simp [readsOf, slotsOf, Op.operands, Call.operands, tmpOf, List.filterMap_cons, List.filterMap_nil, KnownAll, knownOf, srcOf, depsOf, dstOf, Region.binds, nth, Is] at hK
    obtain ⟨hc, hf, hgl⟩ := hρ
    try simp only [wantedBy, dstOf, boolOf, nth, List.getD_cons_zero, List.getD_cons_succ, List.getElem?_cons_zero, List.getElem?_cons_succ, Option.bind_some, if_true, hK, BEq.rfl]
    try go_simp
    first | exact rfl | (rw [if_pos (by omega)]; exact is_here rfl) | (rw [dif_pos (by omega)]; exact is_here rfl) | exact congrArg (Value.int _) (IntWalk.i64_in _ ⟨by omega, by omega⟩) | skip
  case s10 => have q := hg.cell c6; go_simp; exact rfl
  case s16 => have q := hg.cell c134; go_simp; exact rfl
  case s31 => have q := hg.cell cl; go_simp; exact rfl
  case s32 =>
    obtain ⟨w5, r5, o5, g5⟩ := make_any elemB rfl wr .i64 .i64 122 122 122 rfl rfl (by decide) (by decide)
    rw [r5]
    rw [bv_replicate, ← HZ.out] at o5
    exact ⟨g5, _, _, by rw [HZL.out], o5.bytes⟩
  case s33 => exact any_str Try.underlying22 Try.underlying5 Try.underlying9 hK.1
  case s37 => exact any_same (HRM.out _)
  case fin =>
    intro w1 val hg hH
    simp only [Holds, Is, Nat.zero_add, Nat.reduceAdd] at hH
    obtain ⟨h0, h1, h2, h3, h4, h5, h6, h7, h8, h9, h10, h11, h12, h13, h14, h15, h16, h17, h18, h19, h20, h21, h22, h23, h24, h25, h26, h27, h28, h29, h30, h31, ⟨ad32, cap32, h32, hb32⟩, h33, h34, h35, h36, h37, h38, h39, h40, _⟩ := hH
    simp only [List.take_succ_cons, List.take_zero, List.drop_succ_cons, List.drop_zero, putAll, h0, h1, h2, h3, h4, h5, h6, h7, h8, h9, h10, h11, h12, h13, h14, h15, h16, h17, h18, h19, h20, h21, h22, h23, h24, h25, h26, h27, h28, h29, h30, h31, h32, h33, h34, h35, h36, h37, h38, h39, h40, Nat.zero_add, Nat.reduceAdd]
    go_simp
    go_wp2
    go_ret
    exact ⟨rfl, ((g1.trans g2).trans g3).trans hg⟩
end Go.Proofs.Ytmjhffohfppnaaa
