/- Layer 16 (keep): right walked, where all is right. -/
import Derived.Test.YtpaogoehgkoaeaaGreatDoorTabPlain
namespace Go.Proofs.YtpaogoehgkoaeaaGreatDoor
set_option linter.unusedVariables false
set_option linter.unusedSimpArgs false
open Go.RowKit Tab
set_option maxRecDepth 100000 in
set_option maxHeartbeats 4000000 in
theorem right_ok (ad : Option Addr) (cap : Nat) (l : List Ci) (w : World) (hr : Row w ad (cv l)) (hl : l.length ≤ 5000) (ho : ordF l = true) :
    Calls Tryz.prog 38 #[.slice ad l.length cap] w fun e w' => e = .returned (.bool true) ∧ Gr w w' := by
  have HR := Lib.hid hr.ci
  have HOrd := Lib.hid (show ∀ i, i < l.length → ordAt l i = true from fun i hi => by
    unfold ordF at ho; exact List.all_eq_true.1 ho i (List.mem_range.2 hi))
  clear hr ho
  go_enter Tryz.func38, Tryz.ntmps38
  go_wp2
  go_loopw [7] (fun v wr => ∃ i : Nat, i ≤ l.length ∧ v = .int .i64 (i : Int) ∧ Gr w wr) (fun v _ => l.length - (intOf v).toNat)
  case atStart => exact ⟨0, Nat.zero_le _, rfl, Gr.refl _⟩
  case round =>
    obtain ⟨i, hi, rfl, hg⟩ := hrel
    by_cases hlt : i < l.length
    · obtain ⟨b, off, rfl, e0, e1, e2, e3⟩ := HR.out i hlt
      have q0 := hg.cell e0
      have q1 := hg.cell e1
      have q2 := hg.cell e2
      have q3 := hg.cell e3
      have HCk := Lib.hid (fun w => Check_any l[i].key l[i].seq l[i].kind w)
      have HLs := Lib.hid (fun (hp : i - 1 < l.length) w => Less_any l[i - 1].key l[i].key l[i - 1].seq l[i - 1].kind l[i].seq l[i].kind w)
      unfold ver at HCk HLs
      have hok : okV l[i].key l[i].seq l[i].kind = true := by
        have h9 := HOrd.out i hlt
        by_cases h0 : i = 0
        · subst h0; rw [ordAt_zero hlt] at h9; exact h9
        · obtain ⟨i0, rfl⟩ : ∃ i0, i = i0 + 1 := ⟨i - 1, by omega⟩
          rw [ordAt_succ hlt, Bool.and_eq_true] at h9; exact h9.1
      have HLt := Lib.hid (fun (h : 1 ≤ i) => show vless (l[i - 1]'(by omega)).vr l[i].vr = true by
        have h9 := HOrd.out i hlt
        obtain ⟨i0, rfl⟩ : ∃ i0, i = i0 + 1 := ⟨i - 1, by omega⟩
        rw [ordAt_succ hlt, Bool.and_eq_true] at h9; exact h9.2)
      clear e0 e1 e2 e3
      obtain ⟨bx, hbx⟩ : ∃ x, x = wr.heap.size := ⟨_, rfl⟩
      generalize hc : l[i] = c at q0 q1 q2 q3 HCk hok HLs HLt
      obtain ⟨ck, cs, cd, cval⟩ := c
      simp only at q0 q1 q2 q3 HCk hok HLs
      have HC1 := Lib.hid (show ∀ w, Calls Tryz.prog 87 #[.agg #[.string (str ck), .int .i64 cs, .int .i64 cd]] w fun e w' => e = .returned (.int .i64 0) ∧ Gr w w' from fun w => by have := HCk.out w; rw [chk_yes hok] at this; exact this)
      clear HCk hok
      go_upto_region 4 with (fail)
      rw [← hbx]
      have HB := Lib.hid (show Blk (wr.alloc (.cells #[.string (str ck), .int .i64 cs, .int .i64 cd, .string (str cval)] 56)) bx 56 [.string (str ck), .int .i64 cs, .int .i64 cd, .string (str cval)] by rw [hbx]; exact Blk.new _ _ _)
      have gb := Gr.alloc wr (.cells #[.string (str ck), .int .i64 cs, .int .i64 cd, .string (str cval)] 56)
      have HGb := Lib.hid (hg.trans gb)
      generalize (wr.alloc (.cells #[.string (str ck), .int .i64 cs, .int .i64 cd, .string (str cval)] 56)) = wb at *
      clear hbx q0 q1 q2 q3 gb hg
      by_cases hi0 : i = 0
      · have hd : decide ((0 : Int) < (i : Int)) = false := decide_eq_false (by omega)
        have hd2 : decide (0 < i) = false := decide_eq_false (by omega)
        clear HLs HLt hi0
        as_aux_lemma =>
          refine region_any_gr _ [Is (.pointer (some ⟨bx, 0, none⟩)), Is (.agg #[.string (str ck), .int .i64 cs, .int .i64 cd]), Is (.int .i64 0), Is (.bool false), Is (.bool false), Is (.int .i64 (i : Int)), Is (.bool false), Is (.bool false), Is (undef), Is (undef), Is (undef), Is (undef), Is (undef), Is (undef), Is (undef), Is (undef), Is (undef), Is (undef), Is (.bool false), Is (.bool false)] (by kernel_rfl) (by kernel_rfl) (by kernel_rfl) rfl rfl ⟨Is.stable _, Is.stable _, Is.stable _, Is.stable _, Is.stable _, Is.stable _, Is.stable _, Is.stable _, Is.stable _, Is.stable _, Is.stable _, Is.stable _, Is.stable _, Is.stable _, Is.stable _, Is.stable _, Is.stable _, Is.stable _, Is.stable _, Is.stable _, trivial⟩ ⟨?s0, ?s1, ?s2, ?s3, ?s4, ?s5, ?s6, ?s7, ?s8, ?s9, ?s10, ?s11, ?s12, ?s13, ?s14, ?s15, ?s16, ?s17, ?s18, ?s19, trivial⟩ ?fin
          case' s0 | s1 | s2 | s3 | s4 | s5 | s6 | s7 | s8 | s9 | s10 | s11 | s12 | s13 | s14 | s15 | s16 | s17 | s18 | s19 =>
            intro ρ wr hρ hg hK
            simp [readsOf, slotsOf, Op.operands, Call.operands, tmpOf, List.filterMap_cons, List.filterMap_nil, KnownAll, knownOf, srcOf, depsOf, dstOf, Region.binds, nth, Is] at hK
            obtain ⟨hc, hf, hgl⟩ := hρ
            try simp only [wantedBy, dstOf, boolOf, nth, List.getD_cons_zero, List.getD_cons_succ, List.getElem?_cons_zero, List.getElem?_cons_succ, Option.bind_some, if_true, hK, BEq.rfl]
            try go_simp
            first | exact rfl | (rw [if_pos (by omega)]; exact is_here rfl) | (rw [dif_pos (by omega)]; exact is_here rfl) | exact congrArg (Value.int _) (IntWalk.i64_in _ ⟨by omega, by omega⟩) | skip
          case s1 =>
            have z := HB.out.gr hg
            have z0 := z.cell (i := 0) rfl
            have z1 := z.cell (i := 1) rfl
            have z2 := z.cell (i := 2) rfl
            go_simp
            exact rfl
          case s2 => exact any_gr (HC1.out wr)
          case fin =>
            intro w1 val hg hH
            simp only [Holds, Is, Nat.zero_add, Nat.reduceAdd] at hH
            obtain ⟨h0, h1, h2, h3, h4, h5, h6, h7, h8, h9, h10, h11, h12, h13, h14, h15, h16, h17, h18, h19, _⟩ := hH
            simp only [List.take_succ_cons, List.take_zero, List.drop_succ_cons, List.drop_zero, putAll, h0, h1, h2, h3, h4, h5, h6, h7, h8, h9, h10, h11, h12, h13, h14, h15, h16, h17, h18, h19, Nat.zero_add, Nat.reduceAdd]
            have HG := Lib.hid (HGb.out.trans hg)
            clear hg
            go_simp
            go_wp2
            go_roundw
            case rel => exact ⟨i + 1, hlt, by go_num, HG.out⟩
            case measure => simp [intOf]; omega
      · have hp : i - 1 < l.length := by omega
        obtain ⟨bp, op, ep, p0, p1, p2, p3⟩ := HR.out (i - 1) hp
        cases ep
        have HLs2 := Lib.hid (HLs.out hp)
        have hv2 := HLt.out (by omega)
        generalize l[i - 1] = pc at *
        obtain ⟨pk, ps, pd, pval⟩ := pc
        simp only at p0 p1 p2 p3 HLs2
        have HPc := Lib.hid (And.intro p0 (And.intro p1 p2))
        have hv : lessF pk ps pd ck cs cd = true := hv2
        rw [hv] at HLs2
        have hd : decide ((0 : Int) < (i : Int)) = true := decide_eq_true (by omega)
        have hd2 : decide (0 < i) = true := decide_eq_true (by omega)
        have hw1 : IntKind.i64.wrap ((i : Int) - 1) = ((i - 1 : Nat) : Int) := by rw [IntKind.wrap_i64]; omega
        obtain ⟨im, him⟩ : ∃ im, im = i - 1 := ⟨_, rfl⟩
        have himl : im < l.length := by omega
        rw [← him] at HPc hw1
        clear HLs HLt hi0 p0 p1 p2 p3 hv hv2 hp him
        as_aux_lemma =>
          refine region_any_gr _ [Is (.pointer (some ⟨bx, 0, none⟩)), Is (.agg #[.string (str ck), .int .i64 cs, .int .i64 cd]), Is (.int .i64 0), Is (.bool false), Is (.bool false), Is (.int .i64 (i : Int)), Is (.bool true), Is (.bool true), Is (.slice (some ⟨b, off, none⟩) l.length cap), Is (.int .i64 (i : Int)), Is (.int .i64 (im : Int)), Is (.pointer (some ⟨b, off + im * 4, none⟩)), Is (.pointer (some ⟨b, off + im * 4, none⟩)), Is (.agg #[.string (str pk), .int .i64 ps, .int .i64 pd]), Is (.pointer (some ⟨bx, 0, none⟩)), Is (.agg #[.string (str ck), .int .i64 cs, .int .i64 cd]), Is (.bool true), Is (.bool false), Is (.bool false), Is (.bool false)] (by kernel_rfl) (by kernel_rfl) (by kernel_rfl) rfl rfl ⟨Is.stable _, Is.stable _, Is.stable _, Is.stable _, Is.stable _, Is.stable _, Is.stable _, Is.stable _, Is.stable _, Is.stable _, Is.stable _, Is.stable _, Is.stable _, Is.stable _, Is.stable _, Is.stable _, Is.stable _, Is.stable _, Is.stable _, Is.stable _, trivial⟩ ⟨?s0x1, ?s1x1, ?s2x1, ?s3x1, ?s4x1, ?s5x1, ?s6x1, ?s7x1, ?s8x1, ?s9x1, ?s10x1, ?s11x1, ?s12x1, ?s13x1, ?s14x1, ?s15x1, ?s16x1, ?s17x1, ?s18x1, ?s19x1, trivial⟩ ?finx1
          case' s0x1 | s1x1 | s2x1 | s3x1 | s4x1 | s5x1 | s6x1 | s7x1 | s8x1 | s9x1 | s10x1 | s11x1 | s12x1 | s13x1 | s14x1 | s15x1 | s16x1 | s17x1 | s18x1 | s19x1 =>
            intro ρ wr hρ hg hK
            simp [readsOf, slotsOf, Op.operands, Call.operands, tmpOf, List.filterMap_cons, List.filterMap_nil, KnownAll, knownOf, srcOf, depsOf, dstOf, Region.binds, nth, Is] at hK
            obtain ⟨hc, hf, hgl⟩ := hρ
            try simp only [wantedBy, dstOf, boolOf, nth, List.getD_cons_zero, List.getD_cons_succ, List.getElem?_cons_zero, List.getElem?_cons_succ, Option.bind_some, if_true, hK, BEq.rfl]
            try go_simp
            first | exact rfl | (rw [if_pos (by omega)]; exact is_here rfl) | (rw [dif_pos (by omega)]; exact is_here rfl) | exact congrArg (Value.int _) (IntWalk.i64_in _ ⟨by omega, by omega⟩) | skip
          case s1x1 | s15x1 =>
            have z := HB.out.gr hg
            have z0 := z.cell (i := 0) rfl
            have z1 := z.cell (i := 1) rfl
            have z2 := z.cell (i := 2) rfl
            go_simp
            exact rfl
          case s2x1 => exact any_gr (HC1.out wr)
          case s13x1 =>
            obtain ⟨z0, z1, z2⟩ := HPc.out
            have z0 := (HGb.out.trans hg).cell z0
            have z1 := (HGb.out.trans hg).cell z1
            have z2 := (HGb.out.trans hg).cell z2
            go_simp
            exact rfl
          case s16x1 => exact any_gr (HLs2.out wr)
          case finx1 =>
            intro w1 val hg hH
            simp only [Holds, Is, Nat.zero_add, Nat.reduceAdd] at hH
            obtain ⟨h0, h1, h2, h3, h4, h5, h6, h7, h8, h9, h10, h11, h12, h13, h14, h15, h16, h17, h18, h19, _⟩ := hH
            simp only [List.take_succ_cons, List.take_zero, List.drop_succ_cons, List.drop_zero, putAll, h0, h1, h2, h3, h4, h5, h6, h7, h8, h9, h10, h11, h12, h13, h14, h15, h16, h17, h18, h19, Nat.zero_add, Nat.reduceAdd]
            have HG := Lib.hid (HGb.out.trans hg)
            clear hg
            go_simp
            go_wp2
            go_roundw
            case rel => exact ⟨i + 1, hlt, by go_num, HG.out⟩
            case measure => simp [intOf]; omega
    · obtain rfl : i = l.length := by omega
      go_wp2
      go_ret
      exact ⟨rfl, hg⟩
end Go.Proofs.YtpaogoehgkoaeaaGreatDoor
