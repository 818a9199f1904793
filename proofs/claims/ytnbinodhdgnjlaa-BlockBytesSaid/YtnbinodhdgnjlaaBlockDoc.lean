/- Layer 13 (block): the reference's DocBuild. -/
import Derived.Test.YtnbinodhdgnjlaaBlockRef
import Derived.Test.YtnbinodhdgnjlaaAnyT
namespace Go.Proofs.Ytnbinodhdgnjlaa
set_option linter.unusedVariables false
set_option linter.unusedSimpArgs false
open Go.RowKit Bk
theorem rPut_at (X : Int) (n : Nat) (w : World) (hX : X = (n : Int)) (hn : n < 16384) : Calls Try.prog 40 #[.int .u64 X] w fun e w' => e = .returned (.string (str (Varint.putF n))) ∧ Gr w w' := by
  subst hX; exact rPut_any 9 n w (by omega) (by omega)
theorem rDocBuild_bad (ad : Option Addr) (cap : Nat) (l : List Pr) (itv : Int) (w : World) (hr : Row w ad (pv l)) (hl : l.length ≤ 9223372036854775807) (hc : chkF l itv ≠ 0) :
    Calls Try.prog 14 #[.slice ad l.length cap, .int .i64 itv] w fun e w' => e = .returned (.tuple #[.string (str []), .int .i64 (chkF l itv : Nat)]) ∧ Gr w w' := by
  have HC := Lib.hid (rDocCheck_any ad cap l itv w hr hl)
  generalize chkF l itv = c at *
  have hne : ((c : Int) != 0) = true := by rw [bne_iff_ne]; omega
  go_enter Try.func14, Try.ntmps14
  go_wp2_with (go_at_call 37; refine HC.out.mono ?_; rintro e w1 ⟨rfl, g1⟩)
  go_ret2
  exact ⟨rfl, g1⟩
set_option maxRecDepth 100000 in
set_option maxHeartbeats 4000000 in
theorem rDocBuild_ok (ad : Option Addr) (cap : Nat) (l : List Pr) (itv : Nat) (w : World) (hr : Row w ad (pv l)) (h1 : 1 ≤ itv) (h2 : itv ≤ 64) (hl : l.length ≤ 10000) (hc : chkF l itv = 0) :
    Calls Try.prog 14 #[.slice ad l.length cap, .int .i64 (itv : Int)] w fun e w' => e = .returned (.tuple #[.string (str (buildF itv l)), .int .i64 0]) ∧ Gr w w' := by
  have HC := Lib.hid (rDocCheck_any ad cap l itv w hr (by omega))
  have HOK := Lib.hid (chkF_ok hc).1
  rw [hc] at HC
  clear hc
  have HR := Lib.hid hr.pair
  clear hr
  go_enter Try.func14, Try.ntmps14
  go_wp2_with (go_at_call 37; refine HC.out.mono ?_; rintro e w1 ⟨rfl, g1⟩)
  go_loopw [7, 8, 9] (fun vb vp vi wr => ∃ (i : Nat) (adb : Option Addr) (cb : Nat), vb = .slice adb (dataN itv l i).length cb ∧ vp = .string (str (placeN itv l i)) ∧ vi = .int .i64 (i : Int) ∧ i ≤ l.length ∧
    Owns wr w.heap.size 5 1 adb cb (dataN itv l i).length (bv (dataN itv l i)) ∧ Gr w wr) (fun _ _ vi _ => l.length - (intOf vi).toNat)
  case atStart => exact ⟨0, none, 0, rfl, rfl, rfl, Nat.zero_le _, Owns.empty _ _ _ _, g1⟩
  case round =>
    obtain ⟨i, adb, cb, rfl, rfl, rfl, hi, ob, hg⟩ := hrel
    have hbs := hg.size
    have HGW := Lib.hid hg
    by_cases hlt : i < l.length
    · obtain ⟨bl, off, rfl, hc1, hc2⟩ := HR.out i hlt
      have hdl := dataN_len (itv := itv) HOK.out i
      have hpl := placeN_len itv l i
      have hD : dataN itv l (i + 1) = dataN itv l i ++ entF (nAt itv l i) (l.getD i noPr) := rfl
      have hP : placeN itv l (i + 1) = placeN itv l i ++ (if i % itv = 0 then Varint.bytesN 4 (dataN itv l i).length else []) := rfl
      have hge : l.getD i noPr = l[i] := by rw [List.getD_eq_getElem?_getD, List.getElem?_eq_getElem hlt, Option.getD_some]
      have hok := HOK.out i
      have hnk := nAt_le itv l i
      rw [hge] at hD hok hnk
      have HD := Lib.hid hD; have HP := Lib.hid hP; have HGE := Lib.hid hge
      clear hD hP hge
      generalize hpp : l[i] = p at *
      have HPP := Lib.hid hpp; clear hpp
      obtain ⟨k, v⟩ := p
      dsimp only at *
      generalize hDD : dataN itv l i = D at *
      generalize hPP : placeN itv l i = Pc at *
      have HDD := Lib.hid hDD; have HPL := Lib.hid hPP
      clear hDD hPP
      generalize hn : nAt itv l i = n at *
      have HN := Lib.hid hn; clear hn
      have p1 := putF_le n (by omega)
      have p2 := putF_le (k.length - n) (by omega)
      have p3 := putF_le v.length (by omega)
      have hEF := Lib.hid (show entF n (k, v) = Varint.putF n ++ Varint.putF (k.length - n) ++ Varint.putF v.length ++ k.drop n ++ v by simp [entF])
      have hel := (entF_len n (k, v) hok.1 hok.2 hnk).1
      dsimp only at hel
      have hdk : (k.drop n).length = k.length - n := List.length_drop
      by_cases h0 : i % itv = 0
      · have hz : (i : Int) % (itv : Int) = 0 := by omega
        have HP2 := Lib.hid (show placeN itv l (i + 1) = Pc ++ Varint.bytesN 4 D.length by rw [HP.out, if_pos h0])
        have hn0 : n = 0 := by rw [← HN.out]; unfold nAt; rw [if_pos h0]
        have hb4 := Varint.bytesN_len 4 D.length
        have q1 := hg.cell hc1
        have q2 := hg.cell hc2
        have HX := Lib.hid (show (0 : Int) = (n : Int) by omega)
        have HK := Lib.hid (show (k.length : Int) = ((k.length - n : Nat) : Int) by omega)
        have HEF2 := Lib.hid (show entF n (k, v) = Varint.putF n ++ (Varint.putF (k.length - n) ++ (Varint.putF v.length ++ (k ++ v))) by rw [hn0]; rfl)
        clear h0 hn0
        go_wp2_with (first
          | (go_at_call 38; refine (rfixed_at _ 4 D.length 4 _ rfl rfl (by omega) (by omega)).mono ?_; rintro e w2 ⟨rfl, g2⟩; have y1 := g2.cell q1; have y2 := g2.cell q2)
          | fail)
        have HS := Lib.hid (fun w' => src_str (P := Try.prog) (w := w') (Varint.putF n ++ (Varint.putF (k.length - n) ++ (Varint.putF v.length ++ (k ++ v)))) Try.underlying9)
        have hEL : (Varint.putF n ++ (Varint.putF (k.length - n) ++ (Varint.putF v.length ++ (k ++ v)))).length ≤ 2206 := by rw [← HEF2.out]; omega
        have hm1 : D.length + (Varint.putF n ++ (Varint.putF (k.length - n) ++ (Varint.putF v.length ++ (k ++ v)))).length ≤ maxLen := by unfold maxLen; omega
        have hm2 : (D.length + (Varint.putF n ++ (Varint.putF (k.length - n) ++ (Varint.putF v.length ++ (k ++ v)))).length) * 1 ≤ 140737488355328 := by omega
        have HM1 := Lib.hid hm1; have HM2 := Lib.hid hm2
        clear hEL hm1 hm2
        refine region_tail_gr 26 _ [Is (.slice adb D.length cb), Is (.int .i64 0), Is (.int .u64 0), Is (.string (str (Varint.putF n))), Is (.string (str (k))), Is (.int .i64 (k.length : Int)), Is (.int .u64 (k.length : Int)), Is (.string (str (Varint.putF (k.length - n)))), Is (.string (str (Varint.putF n ++ Varint.putF (k.length - n)))), Is (.slice (some ⟨bl, off, none⟩) l.length cap), Is (.int .i64 (i : Int)), Is (.pointer (some ⟨bl, off + i * 2, none⟩)), Is (.pointer (some ⟨bl, off + i * 2 + 1, none⟩)), Is (.string (str v)), Is (.int .i64 (v.length : Int)), Is (.int .u64 (v.length : Int)), Is (.string (str (Varint.putF v.length))), Is (.string (str (Varint.putF n ++ (Varint.putF (k.length - n) ++ Varint.putF v.length)))), Is (.string (str (k))), Is (.string (str (Varint.putF n ++ (Varint.putF (k.length - n) ++ (Varint.putF v.length ++ k))))), Is (.slice (some ⟨bl, off, none⟩) l.length cap), Is (.int .i64 (i : Int)), Is (.pointer (some ⟨bl, off + i * 2, none⟩)), Is (.pointer (some ⟨bl, off + i * 2 + 1, none⟩)), Is (.string (str v)), Is (.string (str (Varint.putF n ++ (Varint.putF (k.length - n) ++ (Varint.putF v.length ++ (k ++ v))))))] (by kernel_rfl) (by kernel_rfl) (by kernel_rfl) (by kernel_rfl) rfl rfl ⟨Is.stable _, Is.stable _, Is.stable _, Is.stable _, Is.stable _, Is.stable _, Is.stable _, Is.stable _, Is.stable _, Is.stable _, Is.stable _, Is.stable _, Is.stable _, Is.stable _, Is.stable _, Is.stable _, Is.stable _, Is.stable _, Is.stable _, Is.stable _, Is.stable _, Is.stable _, Is.stable _, Is.stable _, Is.stable _, Is.stable _, trivial⟩ ⟨?s0, ?s1, ?s2, ?s3, ?s4, ?s5, ?s6, ?s7, ?s8, ?s9, ?s10, ?s11, ?s12, ?s13, ?s14, ?s15, ?s16, ?s17, ?s18, ?s19, ?s20, ?s21, ?s22, ?s23, ?s24, ?s25, trivial⟩ ?fin
        case' s0 | s1 | s2 | s3 | s4 | s5 | s6 | s7 | s8 | s9 | s10 | s11 | s12 | s13 | s14 | s15 | s16 | s17 | s18 | s19 | s20 | s21 | s22 | s23 | s24 | s25 =>
          intro ρ wr hρ hg hK
          simp [readsOf, slotsOf, Op.operands, Call.operands, tmpOf, List.filterMap_cons, List.filterMap_nil, KnownAll, knownOf, srcOf, depsOf, dstOf, Region.binds, nth, Is] at hK
          obtain ⟨hc, hf, hgl⟩ := hρ
          try simp only [wantedBy, dstOf, boolOf, nth, List.getD_cons_zero, List.getD_cons_succ, List.getElem?_cons_zero, List.getElem?_cons_succ, Option.bind_some, if_true, hK, BEq.rfl]
          try go_simp
          first | exact rfl | (rw [if_pos (by omega)]; exact is_here rfl) | (rw [dif_pos (by omega)]; exact is_here rfl) | exact congrArg (Value.int _) (IntWalk.i64_in _ ⟨by omega, by omega⟩) | skip
        case s3 => exact any_gr (rPut_at _ n _ HX.out (by omega))
        case s7 => exact any_gr (rPut_at _ (k.length - n) _ HK.out (by omega))
        case s16 => exact any_gr (rPut_at _ v.length _ rfl (by omega))
        case s8 | s17 | s19 | s25 => rw [if_neg (by omega)]; exact is_here rfl
        case s13 | s24 => have := hg.cell y2; go_simp; exact rfl
        all_goals try exact congrArg (Value.int _) (u64_wrap_nat _ (by omega))
        case fin =>
          intro w1 val hg hH
          simp only [Holds, Is, Nat.zero_add, Nat.reduceAdd] at hH
          obtain ⟨h0, h1, h2, h3, h4, h5, h6, h7, h8, h9, h10, h11, h12, h13, h14, h15, h16, h17, h18, h19, h20, h21, h22, h23, h24, h25, _⟩ := hH
          simp only [List.take_succ_cons, List.take_zero, List.drop_succ_cons, List.drop_zero, putAll, h0, h1, h2, h3, h4, h5, h6, h7, h8, h9, h10, h11, h12, h13, h14, h15, h16, h17, h18, h19, h20, h21, h22, h23, h24, h25, Nat.zero_add, Nat.reduceAdd]
          go_simp
          have ob2 := (ob.gr g2).gr hg
          have hb2 : w.heap.size ≤ w1.heap.size := Nat.le_trans hbs (Nat.le_trans g2.size hg.size)
          go_wp2_with (at_builtin; go_must (refine wp_append elemB rfl _ _ rfl rfl ob2 rfl (HS.out _) HM1.out HM2.out hb2 ?_); intro ad5 cap5 w5 o5 k5 f5)
          go_roundw
          case rel =>
            have hL : (dataN itv l (i + 1)).length = D.length + (Varint.putF n ++ (Varint.putF (k.length - n) ++ (Varint.putF v.length ++ (k ++ v)))).length := by rw [HD.out, HEF2.out, List.length_append]
            refine ⟨i + 1, ad5, cap5, ?_, by rw [HP2.out], by go_num, by omega, ?_, (((HGW.out).trans g2).trans hg).grown k5 (row_from ob2)⟩
            · rw [hL]; simp only [List.length_append]
            · rw [hL, HD.out, HEF2.out, bv_append]; exact o5
          case measure => simp [intOf]; omega
      · obtain ⟨i0, hi0⟩ : ∃ i0, i = i0 + 1 := ⟨i - 1, by have : i ≠ 0 := fun h => h0 (by rw [h]; rfl); omega⟩
        have hz : ¬ (i : Int) % (itv : Int) = 0 := by omega
        have HP3 := Lib.hid (show placeN itv l (i + 1) = Pc by rw [HP.out, if_neg h0, List.append_nil])
        have HEF2 := Lib.hid (show entF n (k, v) = Varint.putF n ++ (Varint.putF (k.length - n) ++ (Varint.putF v.length ++ (k.drop n ++ v))) from rfl)
        obtain ⟨bl', off', e', hd1, hd2⟩ := HR.out i0 (by omega)
        cases e'
        have hlt0 : i0 < l.length := by omega
        have HCM := Lib.hid (show n = comF l[i0].1 k by
          rw [← HN.out]; unfold nAt
          rw [if_neg h0, HGE.out, hi0, Nat.add_sub_cancel, List.getD_eq_getElem?_getD, List.getElem?_eq_getElem hlt0, Option.getD_some])
        have hok0 := HOK.out i0
        rw [List.getD_eq_getElem?_getD, List.getElem?_eq_getElem hlt0, Option.getD_some] at hok0
        have q3 := hg.cell hd1
        have q1 := hg.cell hc1
        have q2 := hg.cell hc2
        generalize l[i0].1 = pk at *
        have HCO := Lib.hid (fun w => rcommon_any pk k w (by omega) (by omega))
        rw [← HCM.out] at HCO
        have e9 : IntKind.i64.wrap ((i : Int) - 1) = (i0 : Int) := by rw [IntKind.wrap_i64]; omega
        have hkn : (k.length : Int) - (n : Int) = ((k.length - n : Nat) : Int) := by omega
        clear h0 hd1 hd2 hi0
        go_wp2
        refine region_any_gr _ [Is ?r0x1, Is ?r1x1, Is (.int .i64 (i0 : Int)), Is (.pointer (some ⟨bl, off + i0 * 2, none⟩)), Is (.pointer (some ⟨bl, off + i0 * 2, none⟩)), Is (.string (str pk)), Is ?r6x1, Is ?r7x1, Is (.pointer (some ⟨bl, off + i * 2, none⟩)), Is (.pointer (some ⟨bl, off + i * 2, none⟩)), Is (.string (str k)), Is (.int .i64 (n : Int)), Is ?r12x1] (by kernel_rfl) (by kernel_rfl) (by kernel_rfl) rfl rfl ⟨Is.stable _, Is.stable _, Is.stable _, Is.stable _, Is.stable _, Is.stable _, Is.stable _, Is.stable _, Is.stable _, Is.stable _, Is.stable _, Is.stable _, Is.stable _, trivial⟩ ⟨?s0x1, ?s1x1, ?s2x1, ?s3x1, ?s4x1, ?s5x1, ?s6x1, ?s7x1, ?s8x1, ?s9x1, ?s10x1, ?s11x1, ?s12x1, trivial⟩ ?finx1
        case' s0x1 | s1x1 | s2x1 | s3x1 | s4x1 | s5x1 | s6x1 | s7x1 | s8x1 | s9x1 | s10x1 | s11x1 | s12x1 =>
          intro ρ wr hρ hg hK
          simp [readsOf, slotsOf, Op.operands, Call.operands, tmpOf, List.filterMap_cons, List.filterMap_nil, KnownAll, knownOf, srcOf, depsOf, dstOf, Region.binds, nth, Is] at hK
          obtain ⟨hc, hf, hgl⟩ := hρ
          try simp only [wantedBy, dstOf, boolOf, nth, List.getD_cons_zero, List.getD_cons_succ, List.getElem?_cons_zero, List.getElem?_cons_succ, Option.bind_some, if_true, hK, BEq.rfl]
          try go_simp
          first | exact rfl | (rw [if_pos (by omega)]; exact is_here rfl) | (rw [dif_pos (by omega)]; exact is_here rfl) | exact congrArg (Value.int _) (IntWalk.i64_in _ ⟨by omega, by omega⟩) | skip
        case s5x1 => have := hg.cell q3; go_simp; exact rfl
        case s10x1 => have := hg.cell q1; go_simp; exact rfl
        case s11x1 => exact any_gr (HCO.out _)
        case finx1 =>
          intro w1 val hg hH
          simp only [Holds, Is, Nat.zero_add, Nat.reduceAdd] at hH
          obtain ⟨h0, h1, h2, h3, h4, h5, h6, h7, h8, h9, h10, h11, h12, _⟩ := hH
          simp only [List.take_succ_cons, List.take_zero, List.drop_succ_cons, List.drop_zero, putAll, h0, h1, h2, h3, h4, h5, h6, h7, h8, h9, h10, h11, h12, Nat.zero_add, Nat.reduceAdd]
          have g2 := hg
          have y1 := hg.cell q1
          have y2 := hg.cell q2
          go_simp
          go_wp2
          have HS := Lib.hid (fun w' => src_str (P := Try.prog) (w := w') (Varint.putF n ++ (Varint.putF (k.length - n) ++ (Varint.putF v.length ++ (k.drop n ++ v)))) Try.underlying9)
          have hEL : (Varint.putF n ++ (Varint.putF (k.length - n) ++ (Varint.putF v.length ++ (k.drop n ++ v)))).length ≤ 2206 := by rw [← HEF2.out]; omega
          have hm1 : D.length + (Varint.putF n ++ (Varint.putF (k.length - n) ++ (Varint.putF v.length ++ (k.drop n ++ v)))).length ≤ maxLen := by unfold maxLen; omega
          have hm2 : (D.length + (Varint.putF n ++ (Varint.putF (k.length - n) ++ (Varint.putF v.length ++ (k.drop n ++ v)))).length) * 1 ≤ 140737488355328 := by omega
          have HM1 := Lib.hid hm1; have HM2 := Lib.hid hm2
          clear hEL hm1 hm2
          refine region_tail_gr 26 _ [Is (.slice adb D.length cb), Is (.int .i64 (n : Int)), Is (.int .u64 (n : Int)), Is (.string (str (Varint.putF n))), Is (.string (str (k.drop n))), Is (.int .i64 ((k.length - n : Nat) : Int)), Is (.int .u64 ((k.length - n : Nat) : Int)), Is (.string (str (Varint.putF (k.length - n)))), Is (.string (str (Varint.putF n ++ Varint.putF (k.length - n)))), Is (.slice (some ⟨bl, off, none⟩) l.length cap), Is (.int .i64 (i : Int)), Is (.pointer (some ⟨bl, off + i * 2, none⟩)), Is (.pointer (some ⟨bl, off + i * 2 + 1, none⟩)), Is (.string (str v)), Is (.int .i64 (v.length : Int)), Is (.int .u64 (v.length : Int)), Is (.string (str (Varint.putF v.length))), Is (.string (str (Varint.putF n ++ (Varint.putF (k.length - n) ++ Varint.putF v.length)))), Is (.string (str (k.drop n))), Is (.string (str (Varint.putF n ++ (Varint.putF (k.length - n) ++ (Varint.putF v.length ++ k.drop n))))), Is (.slice (some ⟨bl, off, none⟩) l.length cap), Is (.int .i64 (i : Int)), Is (.pointer (some ⟨bl, off + i * 2, none⟩)), Is (.pointer (some ⟨bl, off + i * 2 + 1, none⟩)), Is (.string (str v)), Is (.string (str (Varint.putF n ++ (Varint.putF (k.length - n) ++ (Varint.putF v.length ++ (k.drop n ++ v))))))] (by kernel_rfl) (by kernel_rfl) (by kernel_rfl) (by kernel_rfl) rfl rfl ⟨Is.stable _, Is.stable _, Is.stable _, Is.stable _, Is.stable _, Is.stable _, Is.stable _, Is.stable _, Is.stable _, Is.stable _, Is.stable _, Is.stable _, Is.stable _, Is.stable _, Is.stable _, Is.stable _, Is.stable _, Is.stable _, Is.stable _, Is.stable _, Is.stable _, Is.stable _, Is.stable _, Is.stable _, Is.stable _, Is.stable _, trivial⟩ ⟨?s0x2, ?s1x2, ?s2x2, ?s3x2, ?s4x2, ?s5x2, ?s6x2, ?s7x2, ?s8x2, ?s9x2, ?s10x2, ?s11x2, ?s12x2, ?s13x2, ?s14x2, ?s15x2, ?s16x2, ?s17x2, ?s18x2, ?s19x2, ?s20x2, ?s21x2, ?s22x2, ?s23x2, ?s24x2, ?s25x2, trivial⟩ ?finx2
          case' s0x2 | s1x2 | s2x2 | s3x2 | s4x2 | s5x2 | s6x2 | s7x2 | s8x2 | s9x2 | s10x2 | s11x2 | s12x2 | s13x2 | s14x2 | s15x2 | s16x2 | s17x2 | s18x2 | s19x2 | s20x2 | s21x2 | s22x2 | s23x2 | s24x2 | s25x2 =>
            intro ρ wr hρ hg hK
            simp [readsOf, slotsOf, Op.operands, Call.operands, tmpOf, List.filterMap_cons, List.filterMap_nil, KnownAll, knownOf, srcOf, depsOf, dstOf, Region.binds, nth, Is] at hK
            obtain ⟨hc, hf, hgl⟩ := hρ
            try simp only [wantedBy, dstOf, boolOf, nth, List.getD_cons_zero, List.getD_cons_succ, List.getElem?_cons_zero, List.getElem?_cons_succ, Option.bind_some, if_true, hK, BEq.rfl]
            try go_simp
            first | exact rfl | (rw [if_pos (by omega)]; exact is_here rfl) | (rw [dif_pos (by omega)]; exact is_here rfl) | exact congrArg (Value.int _) (IntWalk.i64_in _ ⟨by omega, by omega⟩) | skip
          case s3x2 => exact any_gr (rPut_at _ n _ rfl (by omega))
          case s7x2 => exact any_gr (rPut_at _ (k.length - n) _ rfl (by omega))
          case s16x2 => exact any_gr (rPut_at _ v.length _ rfl (by omega))
          case s8x2 | s17x2 | s19x2 | s25x2 => rw [if_neg (by omega)]; exact is_here rfl
          case s13x2 | s24x2 => have := hg.cell y2; go_simp; exact rfl
          all_goals try exact congrArg (Value.int _) (u64_wrap_nat _ (by omega))
          case finx2 =>
            intro w1 val hg hH
            simp only [Holds, Is, Nat.zero_add, Nat.reduceAdd] at hH
            obtain ⟨h0, h1, h2, h3, h4, h5, h6, h7, h8, h9, h10, h11, h12, h13, h14, h15, h16, h17, h18, h19, h20, h21, h22, h23, h24, h25, _⟩ := hH
            simp only [List.take_succ_cons, List.take_zero, List.drop_succ_cons, List.drop_zero, putAll, h0, h1, h2, h3, h4, h5, h6, h7, h8, h9, h10, h11, h12, h13, h14, h15, h16, h17, h18, h19, h20, h21, h22, h23, h24, h25, Nat.zero_add, Nat.reduceAdd]
            go_simp
            have ob2 := (ob.gr g2).gr hg
            have hb2 : w.heap.size ≤ w1.heap.size := Nat.le_trans hbs (Nat.le_trans g2.size hg.size)
            go_wp2_with (at_builtin; go_must (refine wp_append elemB rfl _ _ rfl rfl ob2 rfl (HS.out _) HM1.out HM2.out hb2 ?_); intro ad5 cap5 w5 o5 k5 f5)
            go_roundw
            case rel =>
              have hL : (dataN itv l (i + 1)).length = D.length + (Varint.putF n ++ (Varint.putF (k.length - n) ++ (Varint.putF v.length ++ (k.drop n ++ v)))).length := by rw [HD.out, HEF2.out, List.length_append]
              refine ⟨i + 1, ad5, cap5, ?_, by rw [HP3.out], by go_num, by omega, ?_, (((HGW.out).trans g2).trans hg).grown k5 (row_from ob2)⟩
              · rw [hL]; simp only [List.length_append, List.length_drop]
              · rw [hL, HD.out, HEF2.out, bv_append]; exact o5
            case measure => simp [intOf]; omega
    · obtain rfl : i = l.length := by omega
      have hdl := dataN_len (itv := itv) HOK.out l.length
      have hpl := placeN_len itv l l.length
      have HBF := Lib.hid (show buildF itv l = dataN itv l l.length ++ (placeN itv l l.length ++ (Varint.bytesN 2 itv ++ Varint.bytesN 4 l.length)) from rfl)
      generalize dataN itv l l.length = D at *
      generalize placeN itv l l.length = Pc at *
      have b2 := Varint.bytesN_len 2 itv
      have b4 := Varint.bytesN_len 4 l.length
      have F2 := Lib.hid (fun w' => rfixed_at (itv : Int) 2 itv 2 w' rfl rfl (by omega) (by omega))
      have F4 := Lib.hid (fun w' => rfixed_at (l.length : Int) 4 l.length 4 w' rfl rfl (by omega) (by omega))
      generalize Varint.bytesN 2 itv = x2 at *
      generalize Varint.bytesN 4 l.length = x4 at *
      go_wp2
      refine region_any_gr _ [Is (.slice adb D.length cb), Is (.string (str D)), Is (.string (str Pc)), Is (.string (str (D ++ Pc))), Is (.int .i64 (itv : Int)), Is (.string (str x2)), Is (.string (str (D ++ (Pc ++ x2)))), Is (.slice ad l.length cap), Is (.int .i64 (l.length : Int)), Is (.string (str x4)), Is (.string (str (D ++ (Pc ++ (x2 ++ x4))))), Is ?r11x3, Is ?r12x3] (by kernel_rfl) (by kernel_rfl) (by kernel_rfl) rfl rfl ⟨Is.stable _, Is.stable _, Is.stable _, Is.stable _, Is.stable _, Is.stable _, Is.stable _, Is.stable _, Is.stable _, Is.stable _, Is.stable _, Is.stable _, Is.stable _, trivial⟩ ⟨?s0x3, ?s1x3, ?s2x3, ?s3x3, ?s4x3, ?s5x3, ?s6x3, ?s7x3, ?s8x3, ?s9x3, ?s10x3, ?s11x3, ?s12x3, trivial⟩ ?finx3
      case' s0x3 | s1x3 | s2x3 | s3x3 | s4x3 | s5x3 | s6x3 | s7x3 | s8x3 | s9x3 | s10x3 | s11x3 | s12x3 =>
        intro ρ wr hρ hg hK
        simp [readsOf, slotsOf, Op.operands, Call.operands, tmpOf, List.filterMap_cons, List.filterMap_nil, KnownAll, knownOf, srcOf, depsOf, dstOf, Region.binds, nth, Is] at hK
        obtain ⟨hc, hf, hgl⟩ := hρ
        try simp only [wantedBy, dstOf, boolOf, nth, List.getD_cons_zero, List.getD_cons_succ, List.getElem?_cons_zero, List.getElem?_cons_succ, Option.bind_some, if_true, hK, BEq.rfl]
        try go_simp
        first | exact rfl | (rw [if_pos (by omega)]; exact is_here rfl) | (rw [dif_pos (by omega)]; exact is_here rfl) | exact congrArg (Value.int _) (IntWalk.i64_in _ ⟨by omega, by omega⟩) | skip
      case s1x3 =>
        have hs := run_string (P := Try.prog) Try.underlying26 Try.underlying5 Try.underlying9 (cap := cb) (l := D) (len := D.length) rfl (ob.gr hg).bytes
        go_simp
        exact rfl
      case s5x3 => exact any_gr (F2.out _)
      case s9x3 => exact any_gr (F4.out _)
      case s3x3 | s6x3 | s10x3 => rw [if_neg (by omega)]; exact is_here rfl
      case finx3 =>
        intro w1 val hg hH
        simp only [Holds, Is, Nat.zero_add, Nat.reduceAdd] at hH
        obtain ⟨h0, h1, h2, h3, h4, h5, h6, h7, h8, h9, h10, h11, h12, _⟩ := hH
        simp only [List.take_succ_cons, List.take_zero, List.drop_succ_cons, List.drop_zero, putAll, h0, h1, h2, h3, h4, h5, h6, h7, h8, h9, h10, h11, h12, Nat.zero_add, Nat.reduceAdd]
        go_simp
        go_wp2
        go_ret2
        exact ⟨by rw [HBF.out]; rfl, (HGW.out).trans hg⟩
end Go.Proofs.Ytnbinodhdgnjlaa
