/- Layer 14 (table): the law's rising cells walked. -/
import Derived.Test.YtlfbelocdpboeaaGreatDoorBunB5
namespace Go.Proofs.YtlfbelocdpboeaaGreatDoor
set_option linter.unusedVariables false
set_option linter.unusedSimpArgs false
open Go.RowKit Ikey Varint
theorem Owns.hadC {w : World} {base : Nat} {e : TypeId} {size : Nat} {ad : Option Addr} {cap n : Nat} {xs : List Value} (h : Owns w base e size ad cap n xs) : (ad = none ∧ cap = 0) ∨ ∃ b off, ad = some ⟨b, off, none⟩ ∧ b < w.heap.size := by
  have hl := h.lt
  obtain ⟨h1, h2, h3, ⟨e1, e2, e3⟩ | ⟨g, cur, fr, e1, _⟩⟩ := h
  · exact .inl ⟨e1, e3⟩
  · exact .inr ⟨g, 0, e1, (hl _ e1).2⟩
set_option maxRecDepth 100000 in
set_option maxHeartbeats 4000000 in
theorem trising_any (ad : Option Addr) (cap : Nat) (l : List Ci) (w : World) (hr : Row w ad (cv l)) (hl : l.length ≤ 9223372036854775807) (hvl : ∀ c ∈ l, c.val.length ≤ 9223372036854775807) :
    Calls Tryz.prog 8 #[.slice ad l.length cap] w (RetC w (gatherN (fun _ => true) l (min l.length 60))) := by
  have HR := Lib.hid hr.ci
  have HVL := Lib.hid hvl
  have HL := Lib.hid (show ∀ (x c : Ci) (w : World), Calls Tryz.prog 24 #[ver x.key x.seq x.kind, ver c.key c.seq c.kind] w fun e w' => e = .returned (.bool (vless x.vr c.vr)) ∧ Gr w w' from fun x c w => rLess_any x.key c.key x.seq x.kind c.seq c.kind w)
  unfold ver at HL
  clear hr hvl
  go_enter Tryz.func8, Tryz.ntmps8
  go_wp2
  go_loopw [3, 4] (fun vo vi wr => ∃ (i : Nat) (adO : Option Addr) (capO : Nat), vi = .int .i64 (i : Int) ∧ i ≤ l.length ∧ i ≤ 60 ∧ vo = .slice adO (gatherN (fun _ => true) l i).length capO ∧ Owns wr w.heap.size 48 4 adO capO (gatherN (fun _ => true) l i).length (cv (gatherN (fun _ => true) l i)) ∧ Gr w wr) (fun _ vi _ => 60 - (intOf vi).toNat)
  case atStart => exact ⟨0, none, 0, rfl, Nat.zero_le _, Nat.zero_le _, rfl, Owns.empty _ _ _ _, Gr.refl _⟩
  case round =>
    obtain ⟨i, adO, capO, rfl, hi, hi50, rfl, hO, hG⟩ := hrel
    by_cases hlt : i < l.length ∧ i < 60
    · obtain ⟨hlt, hlt2⟩ := hlt
      obtain ⟨b, off, hade, e0, e1, e2, e3⟩ := HR.out i hlt
      subst hade
      have hv := HVL.out l[i] (List.getElem_mem hlt)
      have hgt : gatherN (fun _ => true) l (i + 1) = addC (gatherN (fun _ => true) l i) l[i] := by rw [gatherN, if_pos rfl, List.getD_eq_getElem?_getD, List.getElem?_eq_getElem hlt, Option.getD_some]
      have hlen := gather_len (fun _ => true) l i
      generalize l[i] = c at *
      generalize gatherN (fun _ => true) l i = o at *
      have k0 := hG.cell e0
      have k1 := hG.cell e1
      have k2 := hG.cell e2
      have f3' := hG.cell e3
      have HO2 := Lib.hid hO
      have HG2 := Lib.hid hG
      have HX := Lib.hid hgt
      clear e0 e1 e2 e3 HR HVL hO hG hgt hv
      obtain ⟨W2, hW2⟩ : ∃ x, x = wr := ⟨_, rfl⟩
      subst hW2
      go_wp2
      simp only [show decide ((i : Int) < 60) = true from decide_eq_true (by omega)]
      have HOr := Lib.hid HO2.out.row.ci
      go_loopw [5] (fun va wa => ∃ a : Nat, a ≤ o.length ∧ va = .int .i64 (a : Int) ∧ Gr W2 wa ∧ rankI c.vr o = a + rankI c.vr (o.drop a)) (fun va _ => o.length - (intOf va).toNat)
      case atStart => exact ⟨0, Nat.zero_le _, rfl, Gr.refl _, by simp⟩
      case round =>
        obtain ⟨a, ha, rfl, hga, hp⟩ := hrel
        have HP := Lib.hid hp
        clear hp
        have j0 := hga.cell k0
        have j1 := hga.cell k1
        have j2 := hga.cell k2
        have j3 := hga.cell f3'
        have HOw := Lib.hid (HO2.out.gr hga)
        have HGw := Lib.hid (HG2.out.trans hga)
        by_cases hao : a < o.length
        · obtain ⟨bo, offo, hadO, y0, y1, y2, _⟩ := HOr.out a hao
          subst hadO
          have z0 := hga.cell y0
          have z1 := hga.cell y1
          have z2 := hga.cell y2
          clear y0 y1 y2
          have HS := Lib.hid (fun h => rankI_step (v := c.vr) hao h)
          have HT := Lib.hid (fun h => rankI_stop (v := c.vr) hao h)
          have HAt := Lib.hid (fun h => add_at (c := c) hao h)
          generalize o[a] = x at *
          have HC := Lib.hid (HL.out x c)
          cases hb : vless x.vr c.vr with
          | true =>
            rw [hb] at HC
            clear HAt
            go_wp2
            refine region_any_gr _ [Is (.int .i64 (a : Int)), Is ?r1, Is (.int .i64 (o.length : Int)), Is (.bool true), Is (.bool true), Is ?r5, Is ?r6, Is (.pointer (some ⟨bo, offo + a * 4, none⟩)), Is ?r8, Is (.agg #[.string (str x.key), .int .i64 x.seq, .int .i64 x.kind]), Is ?r10, Is ?r11, Is (.pointer (some ⟨b, off + i * 4, none⟩)), Is ?r13, Is (.agg #[.string (str c.key), .int .i64 c.seq, .int .i64 c.kind]), Is (.bool true), Is (.bool true)] (by kernel_rfl) (by kernel_rfl) (by kernel_rfl) rfl rfl ⟨Is.stable _, Is.stable _, Is.stable _, Is.stable _, Is.stable _, Is.stable _, Is.stable _, Is.stable _, Is.stable _, Is.stable _, Is.stable _, Is.stable _, Is.stable _, Is.stable _, Is.stable _, Is.stable _, Is.stable _, trivial⟩ ⟨?s0, ?s1, ?s2, ?s3, ?s4, ?s5, ?s6, ?s7, ?s8, ?s9, ?s10, ?s11, ?s12, ?s13, ?s14, ?s15, ?s16, trivial⟩ ?fin
            case' s0 | s1 | s2 | s3 | s4 | s5 | s6 | s7 | s8 | s9 | s10 | s11 | s12 | s13 | s14 | s15 | s16 =>
              intro ρ wr hρ hg hK
              simp [readsOf, slotsOf, Op.operands, Call.operands, tmpOf, List.filterMap_cons, List.filterMap_nil, KnownAll, knownOf, srcOf, depsOf, dstOf, Region.binds, nth, Is] at hK
              obtain ⟨hc, hf, hgl⟩ := hρ
              try simp only [wantedBy, dstOf, boolOf, nth, List.getD_cons_zero, List.getD_cons_succ, List.getElem?_cons_zero, List.getElem?_cons_succ, Option.bind_some, if_true, hK, BEq.rfl]
              try go_simp
              first | exact rfl | (rw [if_pos (by omega)]; exact is_here rfl) | (rw [dif_pos (by omega)]; exact is_here rfl) | exact congrArg (Value.int _) (IntWalk.i64_in _ ⟨by omega, by omega⟩) | skip
            case s9 => have z0 := hg.cell z0; have z1 := hg.cell z1; have z2 := hg.cell z2; go_simp; exact rfl
            case s14 => have z0 := hg.cell j0; have z1 := hg.cell j1; have z2 := hg.cell j2; go_simp; exact rfl
            case s15 => exact any_gr (HC.out _)
            case fin =>
              intro w1 val hg hH
              simp only [Holds, Is, Nat.zero_add, Nat.reduceAdd] at hH
              obtain ⟨h0, h1, h2, h3, h4, h5, h6, h7, h8, h9, h10, h11, h12, h13, h14, h15, h16, _⟩ := hH
              simp only [List.take_succ_cons, List.take_zero, List.drop_succ_cons, List.drop_zero, putAll, h0, h1, h2, h3, h4, h5, h6, h7, h8, h9, h10, h11, h12, h13, h14, h15, h16, Nat.zero_add, Nat.reduceAdd]
              go_simp
              go_wp2
              go_roundw
              case rel => exact ⟨a + 1, hao, by go_num, hga.trans hg, by rw [HP.out, HS.out hb]; omega⟩
              case measure => simp [intOf]; omega
          | false =>
            rw [hb] at HC
            have hra : rankI c.vr o = a := by rw [HP.out, HT.out hb]; rfl
            have hA := HAt.out hra
            clear HAt HS HT hra
            go_wp2
            refine region_any_gr _ [Is (.int .i64 (a : Int)), Is ?r1x1, Is (.int .i64 (o.length : Int)), Is (.bool true), Is (.bool true), Is ?r5x1, Is ?r6x1, Is (.pointer (some ⟨bo, offo + a * 4, none⟩)), Is ?r8x1, Is (.agg #[.string (str x.key), .int .i64 x.seq, .int .i64 x.kind]), Is ?r10x1, Is ?r11x1, Is (.pointer (some ⟨b, off + i * 4, none⟩)), Is ?r13x1, Is (.agg #[.string (str c.key), .int .i64 c.seq, .int .i64 c.kind]), Is (.bool false), Is (.bool false)] (by kernel_rfl) (by kernel_rfl) (by kernel_rfl) rfl rfl ⟨Is.stable _, Is.stable _, Is.stable _, Is.stable _, Is.stable _, Is.stable _, Is.stable _, Is.stable _, Is.stable _, Is.stable _, Is.stable _, Is.stable _, Is.stable _, Is.stable _, Is.stable _, Is.stable _, Is.stable _, trivial⟩ ⟨?s0x1, ?s1x1, ?s2x1, ?s3x1, ?s4x1, ?s5x1, ?s6x1, ?s7x1, ?s8x1, ?s9x1, ?s10x1, ?s11x1, ?s12x1, ?s13x1, ?s14x1, ?s15x1, ?s16x1, trivial⟩ ?finx1
            case' s0x1 | s1x1 | s2x1 | s3x1 | s4x1 | s5x1 | s6x1 | s7x1 | s8x1 | s9x1 | s10x1 | s11x1 | s12x1 | s13x1 | s14x1 | s15x1 | s16x1 =>
              intro ρ wr hρ hg hK
              simp [readsOf, slotsOf, Op.operands, Call.operands, tmpOf, List.filterMap_cons, List.filterMap_nil, KnownAll, knownOf, srcOf, depsOf, dstOf, Region.binds, nth, Is] at hK
              obtain ⟨hc, hf, hgl⟩ := hρ
              try simp only [wantedBy, dstOf, boolOf, nth, List.getD_cons_zero, List.getD_cons_succ, List.getElem?_cons_zero, List.getElem?_cons_succ, Option.bind_some, if_true, hK, BEq.rfl]
              try go_simp
              first | exact rfl | (rw [if_pos (by omega)]; exact is_here rfl) | (rw [dif_pos (by omega)]; exact is_here rfl) | exact congrArg (Value.int _) (IntWalk.i64_in _ ⟨by omega, by omega⟩) | skip
            case s9x1 => have z0 := hg.cell z0; have z1 := hg.cell z1; have z2 := hg.cell z2; go_simp; exact rfl
            case s14x1 => have z0 := hg.cell j0; have z1 := hg.cell j1; have z2 := hg.cell j2; go_simp; exact rfl
            case s15x1 => exact any_gr (HC.out _)
            case finx1 =>
              intro w1 val hg hH
              simp only [Holds, Is, Nat.zero_add, Nat.reduceAdd] at hH
              obtain ⟨h0, h1, h2, h3, h4, h5, h6, h7, h8, h9, h10, h11, h12, h13, h14, h15, h16, _⟩ := hH
              simp only [List.take_succ_cons, List.take_zero, List.drop_succ_cons, List.drop_zero, putAll, h0, h1, h2, h3, h4, h5, h6, h7, h8, h9, h10, h11, h12, h13, h14, h15, h16, Nat.zero_add, Nat.reduceAdd]
              have HO1 := Lib.hid (HOw.out.gr hg)
              have HG1 := Lib.hid (HGw.out.trans hg)
              have z0 := hg.cell z0
              have z1 := hg.cell z1
              have z2 := hg.cell z2
              have j0 := hg.cell j0
              have j1 := hg.cell j1
              have j2 := hg.cell j2
              have j3 := hg.cell j3
              clear hg HOw HGw HC hga
              go_simp
              go_wp2
              generalize w1 = W0 at *
              have hab : ((a : Int) == (o.length : Int)) = false := by rw [beq_eq_false_iff_ne]; omega
              by_cases hxe : x.vr = c.vr
              · rw [if_pos hxe] at hA
                have HA := Lib.hid hA
                obtain ⟨xk, xs, xd, xv⟩ := x
                simp only [Ci.vr, Vr.mk.injEq] at hxe
                obtain ⟨q1, q2, q3⟩ := hxe
                simp only at z0 z1 z2
                rw [q1] at z0
                rw [q2] at z1
                rw [q3] at z2
                clear q1 q2 q3 hA hb
                go_quiet (fail)
                go_wp2
                go_roundw
                case rel => exact ⟨i + 1, _, capO, by go_num, hlt, hlt2, by rw [HX.out, HA.out], by rw [HX.out, HA.out]; exact HO1.out.gr (Gr.drewN _ _), HG1.out.trans (Gr.drewN _ _)⟩
                case measure => simp [intOf]; omega
              · rw [if_neg hxe] at hA
                have HA := Lib.hid hA
                obtain ⟨xk, xs, xd, xv⟩ := x
                simp only at z0 z1 z2
                have HQ := Lib.hid (show xk = c.key → xs = c.seq → xd = c.kind → False from fun q1 q2 q3 => hxe (by simp [Ci.vr, q1, q2, q3]))
                clear hxe hA hb
                refine region_any_gr _ [Is (.int .i64 (a : Int)), Is ?r1x2, Is (.int .i64 (o.length : Int)), Is (.bool false), Is (.bool false), Is ?r5x2, Is ?r6x2, Is (.pointer (some ⟨bo, offo + a * 4, none⟩)), Is ?r8x2, Is (.agg #[.string (str xk), .int .i64 xs, .int .i64 xd]), Is ?r10x2, Is ?r11x2, Is (.pointer (some ⟨b, off + i * 4, none⟩)), Is ?r13x2, Is (.agg #[.string (str c.key), .int .i64 c.seq, .int .i64 c.kind]), Is (.bool true), Is (.bool true)] (by kernel_rfl) (by kernel_rfl) (by kernel_rfl) rfl rfl ⟨Is.stable _, Is.stable _, Is.stable _, Is.stable _, Is.stable _, Is.stable _, Is.stable _, Is.stable _, Is.stable _, Is.stable _, Is.stable _, Is.stable _, Is.stable _, Is.stable _, Is.stable _, Is.stable _, Is.stable _, trivial⟩ ⟨?s0x2, ?s1x2, ?s2x2, ?s3x2, ?s4x2, ?s5x2, ?s6x2, ?s7x2, ?s8x2, ?s9x2, ?s10x2, ?s11x2, ?s12x2, ?s13x2, ?s14x2, ?s15x2, ?s16x2, trivial⟩ ?finx2
                case' s0x2 | s1x2 | s2x2 | s3x2 | s4x2 | s5x2 | s6x2 | s7x2 | s8x2 | s9x2 | s10x2 | s11x2 | s12x2 | s13x2 | s14x2 | s15x2 | s16x2 =>
                  intro ρ wr hρ hg hK
                  simp [readsOf, slotsOf, Op.operands, Call.operands, tmpOf, List.filterMap_cons, List.filterMap_nil, KnownAll, knownOf, srcOf, depsOf, dstOf, Region.binds, nth, Is] at hK
                  obtain ⟨hc, hf, hgl⟩ := hρ
                  try simp only [wantedBy, dstOf, boolOf, nth, List.getD_cons_zero, List.getD_cons_succ, List.getElem?_cons_zero, List.getElem?_cons_succ, Option.bind_some, if_true, hK, BEq.rfl]
                  try go_simp
                  first | exact rfl | (rw [if_pos (by omega)]; exact is_here rfl) | (rw [dif_pos (by omega)]; exact is_here rfl) | exact congrArg (Value.int _) (IntWalk.i64_in _ ⟨by omega, by omega⟩) | skip
                case s9x2 => have z0 := hg.cell z0; have z1 := hg.cell z1; have z2 := hg.cell z2; go_simp; exact rfl
                case s14x2 => have z0 := hg.cell j0; have z1 := hg.cell j1; have z2 := hg.cell j2; go_simp; exact rfl
                case s15x2 =>
                  split
                  · rename_i q1
                    split
                    · rename_i q2
                      split
                      · rename_i q3
                        exact (HQ.out q1 q2 q3).elim
                      · exact is_here rfl
                    · exact is_here rfl
                  · exact is_here rfl
                case finx2 =>
                  intro w1 val hg hH
                  simp only [Holds, Is, Nat.zero_add, Nat.reduceAdd] at hH
                  obtain ⟨h0, h1, h2, h3, h4, h5, h6, h7, h8, h9, h10, h11, h12, h13, h14, h15, h16, _⟩ := hH
                  simp only [List.take_succ_cons, List.take_zero, List.drop_succ_cons, List.drop_zero, putAll, h0, h1, h2, h3, h4, h5, h6, h7, h8, h9, h10, h11, h12, h13, h14, h15, h16, Nat.zero_add, Nat.reduceAdd]
                  have HPl := Lib.hid (fun w' (g : Gr W0 w') => Place_any _ capO o c w' (HO1.out.gr g).row HO1.out.2.1 (HO1.out.gr g).hadC (by omega))
                  unfold c4 at HPl
                  have j0' := hg.cell j0
                  have j1' := hg.cell j1
                  have j2' := hg.cell j2
                  have j3' := hg.cell j3
                  go_simp
                  go_wp2_with (first
                    | (go_at_call 25; go_must (refine (HPl.out _ hg).mono ?_); rintro e w5 ⟨ad5, cap5, rfl, o5, g5⟩)
                    | fail)
                  go_roundw
                  case rel => exact ⟨i + 1, ad5, cap5, by go_num, hlt, hlt2, by rw [HX.out, HA.out], by rw [HX.out, HA.out]; exact o5.base (HG1.out.trans hg).size, (HG1.out.trans hg).trans g5⟩
                  case measure => simp [intOf]; omega
        · have hra : rankI c.vr o = o.length := by rw [HP.out, rankI_end (by omega)]; omega
          have HA := Lib.hid (add_end hra)
          obtain rfl : a = o.length := by omega
          clear hra
          go_wp2
          refine region_any_gr _ [Is (.int .i64 (o.length : Int)), Is ?r1x3, Is (.int .i64 (o.length : Int)), Is (.bool false), Is (.bool false), Is (undef), Is (undef), Is (undef), Is (undef), Is (undef), Is (undef), Is (undef), Is (undef), Is (undef), Is (undef), Is (undef), Is (.bool false)] (by kernel_rfl) (by kernel_rfl) (by kernel_rfl) rfl rfl ⟨Is.stable _, Is.stable _, Is.stable _, Is.stable _, Is.stable _, Is.stable _, Is.stable _, Is.stable _, Is.stable _, Is.stable _, Is.stable _, Is.stable _, Is.stable _, Is.stable _, Is.stable _, Is.stable _, Is.stable _, trivial⟩ ⟨?s0x3, ?s1x3, ?s2x3, ?s3x3, ?s4x3, ?s5x3, ?s6x3, ?s7x3, ?s8x3, ?s9x3, ?s10x3, ?s11x3, ?s12x3, ?s13x3, ?s14x3, ?s15x3, ?s16x3, trivial⟩ ?finx3
          case' s0x3 | s1x3 | s2x3 | s3x3 | s4x3 | s5x3 | s6x3 | s7x3 | s8x3 | s9x3 | s10x3 | s11x3 | s12x3 | s13x3 | s14x3 | s15x3 | s16x3 =>
            intro ρ wr hρ hg hK
            simp [readsOf, slotsOf, Op.operands, Call.operands, tmpOf, List.filterMap_cons, List.filterMap_nil, KnownAll, knownOf, srcOf, depsOf, dstOf, Region.binds, nth, Is] at hK
            obtain ⟨hc, hf, hgl⟩ := hρ
            try simp only [wantedBy, dstOf, boolOf, nth, List.getD_cons_zero, List.getD_cons_succ, List.getElem?_cons_zero, List.getElem?_cons_succ, Option.bind_some, if_true, hK, BEq.rfl]
            try go_simp
            first | exact rfl | (rw [if_pos (by omega)]; exact is_here rfl) | (rw [dif_pos (by omega)]; exact is_here rfl) | exact congrArg (Value.int _) (IntWalk.i64_in _ ⟨by omega, by omega⟩) | skip
          case finx3 =>
            intro w1 val hg hH
            simp only [Holds, Is, Nat.zero_add, Nat.reduceAdd] at hH
            obtain ⟨h0, h1, h2, h3, h4, h5, h6, h7, h8, h9, h10, h11, h12, h13, h14, h15, h16, _⟩ := hH
            simp only [List.take_succ_cons, List.take_zero, List.drop_succ_cons, List.drop_zero, putAll, h0, h1, h2, h3, h4, h5, h6, h7, h8, h9, h10, h11, h12, h13, h14, h15, h16, Nat.zero_add, Nat.reduceAdd]
            have HO1 := Lib.hid (HOw.out.gr hg)
            have HG1 := Lib.hid (HGw.out.trans hg)
            have j0 := hg.cell j0
            have j1 := hg.cell j1
            have j2 := hg.cell j2
            have j3 := hg.cell j3
            clear hg HOw HGw hga
            go_simp
            go_wp2
            generalize w1 = W0 at *
            refine region_any_gr _ [Is (.int .i64 (o.length : Int)), Is ?r1x4, Is (.int .i64 (o.length : Int)), Is (.bool true), Is (.bool true), Is (undef), Is (undef), Is (undef), Is (undef), Is (undef), Is (undef), Is (undef), Is (undef), Is (undef), Is (undef), Is (undef), Is (.bool true)] (by kernel_rfl) (by kernel_rfl) (by kernel_rfl) rfl rfl ⟨Is.stable _, Is.stable _, Is.stable _, Is.stable _, Is.stable _, Is.stable _, Is.stable _, Is.stable _, Is.stable _, Is.stable _, Is.stable _, Is.stable _, Is.stable _, Is.stable _, Is.stable _, Is.stable _, Is.stable _, trivial⟩ ⟨?s0x4, ?s1x4, ?s2x4, ?s3x4, ?s4x4, ?s5x4, ?s6x4, ?s7x4, ?s8x4, ?s9x4, ?s10x4, ?s11x4, ?s12x4, ?s13x4, ?s14x4, ?s15x4, ?s16x4, trivial⟩ ?finx4
            case' s0x4 | s1x4 | s2x4 | s3x4 | s4x4 | s5x4 | s6x4 | s7x4 | s8x4 | s9x4 | s10x4 | s11x4 | s12x4 | s13x4 | s14x4 | s15x4 | s16x4 =>
              intro ρ wr hρ hg hK
              simp [readsOf, slotsOf, Op.operands, Call.operands, tmpOf, List.filterMap_cons, List.filterMap_nil, KnownAll, knownOf, srcOf, depsOf, dstOf, Region.binds, nth, Is] at hK
              obtain ⟨hc, hf, hgl⟩ := hρ
              try simp only [wantedBy, dstOf, boolOf, nth, List.getD_cons_zero, List.getD_cons_succ, List.getElem?_cons_zero, List.getElem?_cons_succ, Option.bind_some, if_true, hK, BEq.rfl]
              try go_simp
              first | exact rfl | (rw [if_pos (by omega)]; exact is_here rfl) | (rw [dif_pos (by omega)]; exact is_here rfl) | exact congrArg (Value.int _) (IntWalk.i64_in _ ⟨by omega, by omega⟩) | skip
            case finx4 =>
              intro w1 val hg hH
              simp only [Holds, Is, Nat.zero_add, Nat.reduceAdd] at hH
              obtain ⟨h0, h1, h2, h3, h4, h5, h6, h7, h8, h9, h10, h11, h12, h13, h14, h15, h16, _⟩ := hH
              simp only [List.take_succ_cons, List.take_zero, List.drop_succ_cons, List.drop_zero, putAll, h0, h1, h2, h3, h4, h5, h6, h7, h8, h9, h10, h11, h12, h13, h14, h15, h16, Nat.zero_add, Nat.reduceAdd]
              have HPl := Lib.hid (fun w' (g : Gr W0 w') => Place_any _ capO o c w' (HO1.out.gr g).row HO1.out.2.1 (HO1.out.gr g).hadC (by omega))
              unfold c4 at HPl
              have j0' := hg.cell j0
              have j1' := hg.cell j1
              have j2' := hg.cell j2
              have j3' := hg.cell j3
              go_simp
              go_wp2_with (first
                | (go_at_call 25; go_must (refine (HPl.out _ hg).mono ?_); rintro e w5 ⟨ad5, cap5, rfl, o5, g5⟩)
                | fail)
              go_roundw
              case rel => exact ⟨i + 1, ad5, cap5, by go_num, hlt, hlt2, by rw [HX.out, HA.out], by rw [HX.out, HA.out]; exact o5.base (HG1.out.trans hg).size, (HG1.out.trans hg).trans g5⟩
              case measure => simp [intOf]; omega
    · have hx : l.length ≤ i ∨ (i < l.length ∧ 60 ≤ i) := by omega
      have he : gatherN (fun _ => true) l (min l.length 60) = gatherN (fun _ => true) l i := by
        congr 1; omega
      have HE := Lib.hid he
      have HO := Lib.hid hO
      have HG := Lib.hid hG
      clear he hO hG HR HVL
      rcases hx with hx | ⟨hx, hx2⟩
      all_goals
        go_wp2
        go_ret
        exact ⟨adO, capO, by rw [HE.out]; rfl, by rw [HE.out]; exact HO.out, HG.out⟩
end Go.Proofs.YtlfbelocdpboeaaGreatDoor
