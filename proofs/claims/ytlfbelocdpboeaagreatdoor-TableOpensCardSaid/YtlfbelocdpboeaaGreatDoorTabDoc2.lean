/- Layer 14 (table): the reference's cut and DocCheck walked. -/
import Derived.Test.YtlfbelocdpboeaaGreatDoorTabDoc1
namespace Go.Proofs.YtlfbelocdpboeaaGreatDoor
set_option linter.unusedVariables false
set_option linter.unusedSimpArgs false
open Go.RowKit Tab
theorem part_eq {b : List UInt8} {off n : Nat} (h : off + n + 4 ≤ b.length) : (partB ((b.drop off).take n) == (b.drop off).take (n + 4)) = (numF b (off + n) == markF ((b.drop off).take n)) := by
  have h1 : (b.drop off).take (n + 4) = (b.drop off).take n ++ (b.drop (off + n)).take 4 := by
    rw [List.take_add, List.drop_drop]
  have hl : ((b.drop (off + n)).take 4).length = 4 := by rw [List.length_take, List.length_drop]; omega
  rw [h1]
  unfold partB numF
  generalize (b.drop off).take n = s
  generalize (b.drop (off + n)).take 4 = t at *
  have hm := markF_lt s
  rw [Bool.eq_iff_iff, beq_iff_eq, beq_iff_eq]
  constructor
  · intro e
    have e1 := List.append_cancel_left e
    rw [← e1]
    exact le_bytesN' 4 _ (by omega)
  · intro e
    rw [← e]
    congr 1
    have := bytesN_le' t
    rwa [hl] at this
set_option maxRecDepth 100000 in
theorem dcut_none (b : List UInt8) (off n : Nat) (w : World) (hl : b.length ≤ 1000000000) (ho : off < 4611686018427387904) (hn : n < 4611686018427387904) (h : b.length < off + n + 4) :
    Calls Tryz.prog 26 #[.string (str b), .int .i64 (off : Int), .int .i64 (n : Int)] w fun e w' => e = .returned (.tuple #[.string (str []), .bool false]) ∧ Gr w w' := by
  have hbI : (b.length : Int) ≤ 1000000000 := by omega
  by_cases h1 : b.length < off
  · have h2 : (b.length : Int) < (off : Int) := by omega
    have h3 : ¬ ((b.length : Int) - (off : Int) - 4 > (n : Int)) := by omega
    go_enter Tryz.func26, Tryz.ntmps26
    go_wp2
    go_ret2
    exact ⟨rfl, Gr.refl _⟩
  · obtain ⟨d, hd⟩ : ∃ d : Int, d = (b.length : Int) - (off : Int) := ⟨_, rfl⟩
    have h2 : ¬ (b.length : Int) < (off : Int) := by omega
    have h4 : d - 4 < (n : Int) := by omega
    have h5 : 0 ≤ d := by omega
    have h6 : d ≤ 1000000000 := by omega
    have hd2 : (b.length : Int) - (off : Int) = d := hd.symm
    clear hd h1 h
    go_enter Tryz.func26, Tryz.ntmps26
    go_wp2
    go_ret2
    exact ⟨rfl, Gr.refl _⟩
set_option maxRecDepth 100000 in
set_option maxHeartbeats 1000000 in
theorem dcut_at (b : List UInt8) (off n : Nat) (w : World) (hl : b.length ≤ 1000000000) (h : off + n + 4 ≤ b.length) :
    Calls Tryz.prog 26 #[.string (str b), .int .i64 (off : Int), .int .i64 (n : Int)] w fun e w' => e = .returned (.tuple #[.string (str ((b.drop off).take n)), .bool (numF b (off + n) == markF ((b.drop off).take n))]) ∧ Gr w w' := by
  have hbI : (b.length : Int) ≤ 1000000000 := by omega
  have hpe := part_eq h
  obtain ⟨d, hd⟩ : ∃ d, d = off + n := ⟨_, rfl⟩
  obtain ⟨e, he⟩ : ∃ e, e = off + n + 4 := ⟨_, rfl⟩
  have hdI : (off : Int) + (n : Int) = (d : Int) := by omega
  have heI : (d : Int) + 4 = (e : Int) := by omega
  have h1 : ¬ (b.length : Int) < (off : Int) := by omega
  obtain ⟨r, hr⟩ : ∃ r : Int, r = (b.length : Int) - (off : Int) := ⟨_, rfl⟩
  have hr2 : (b.length : Int) - (off : Int) = r := hr.symm
  have h2 : (n : Int) ≤ r - 4 := by omega
  have h3 : r ≤ 1000000000 := by omega
  have hod : off ≤ d := by omega
  have hdb : d ≤ b.length := by omega
  have hoe : off ≤ e := by omega
  have heb : e ≤ b.length := by omega
  obtain ⟨s, hs⟩ : ∃ s, s = (b.drop off).take n := ⟨_, rfl⟩
  obtain ⟨t, ht⟩ : ∃ t, t = (b.drop off).take (n + 4) := ⟨_, rfl⟩
  have hs2 : (b.drop off).take (d - off) = s := by rw [hs]; congr 1; omega
  have ht2 : (b.drop off).take (e - off) = t := by rw [ht]; congr 1; omega
  rw [← hs, ← ht] at hpe
  rw [← hs]
  have hsl : s.length ≤ 1000000000 := by rw [hs, List.length_take, List.length_drop]; omega
  have HP := Lib.hid (fun w => dpart_any s w hsl)
  obtain ⟨y, hy⟩ : ∃ y, y = (numF b (off + n) == markF s) := ⟨_, rfl⟩
  rw [← hy] at hpe ⊢
  generalize partB s = p at *
  clear hy hs ht hd he hr hl h
  go_enter Tryz.func26, Tryz.ntmps26
  go_wp2
  refine region_any_gr _ [Is (.string (str s)), Is (.string (str s)), Is (.string (str p)), Is (.string (str b)), Is (.int .i64 (off : Int)), Is (.int .i64 (off : Int)), Is (.int .i64 (n : Int)), Is (.int .i64 (d : Int)), Is (.int .i64 (e : Int)), Is (.string (str t)), Is (.bool y), Is (.string (str s)), Is (.bool y)] (by kernel_rfl) (by kernel_rfl) (by kernel_rfl) rfl rfl ⟨Is.stable _, Is.stable _, Is.stable _, Is.stable _, Is.stable _, Is.stable _, Is.stable _, Is.stable _, Is.stable _, Is.stable _, Is.stable _, Is.stable _, Is.stable _, trivial⟩ ⟨?s0, ?s1, ?s2, ?s3, ?s4, ?s5, ?s6, ?s7, ?s8, ?s9, ?s10, ?s11, ?s12, trivial⟩ ?fin
  case' s0 | s1 | s2 | s3 | s4 | s5 | s6 | s7 | s8 | s9 | s10 | s11 | s12 =>
    intro ρ wr hρ hg hK
    simp [readsOf, slotsOf, Op.operands, Call.operands, tmpOf, List.filterMap_cons, List.filterMap_nil, KnownAll, knownOf, srcOf, depsOf, dstOf, Region.binds, nth, Is] at hK
    obtain ⟨hc, hf, hgl⟩ := hρ
    try simp only [wantedBy, dstOf, boolOf, nth, List.getD_cons_zero, List.getD_cons_succ, List.getElem?_cons_zero, List.getElem?_cons_succ, Option.bind_some, if_true, hK, BEq.rfl]
    try go_simp
    first | exact rfl | (rw [if_pos (by omega)]; exact is_here rfl) | (rw [dif_pos (by omega)]; exact is_here rfl) | exact congrArg (Value.int _) (IntWalk.i64_in _ ⟨by omega, by omega⟩) | skip
  case s2 => exact any_gr (HP.out _)
  case fin =>
    intro w1 val hg hH
    simp only [Holds, Is, Nat.zero_add, Nat.reduceAdd] at hH
    obtain ⟨h0, h1, h2, h3, h4, h5, h6, h7, h8, h9, h10, h11, h12, _⟩ := hH
    simp only [List.take_succ_cons, List.take_zero, List.drop_succ_cons, List.drop_zero, putAll, h0, h1, h2, h3, h4, h5, h6, h7, h8, h9, h10, h11, h12, Nat.zero_add, Nat.reduceAdd]
    go_simp
    go_wp2
    go_ret2
    exact ⟨rfl, hg⟩
/-- a text that is cut out, and whether its sum fits -/
theorem dcut_any (b : List UInt8) (off n : Nat) (w : World) (hl : b.length ≤ 1000000000) (ho : off < 4611686018427387904) (hn : n < 4611686018427387904) :
    Calls Tryz.prog 26 #[.string (str b), .int .i64 (off : Int), .int .i64 (n : Int)] w fun e w' => ∃ S : List UInt8, S.length ≤ b.length ∧ e = .returned (.tuple #[.string (str S), .bool (cutF b off n).isSome]) ∧ (∀ s, cutF b off n = some s → S = s) ∧ Gr w w' := by
  unfold cutF
  by_cases h : b.length < off + n + 4
  · rw [if_pos h]
    exact (dcut_none b off n w hl ho hn h).mono fun e w' ⟨h1, h2⟩ => ⟨[], Nat.zero_le _, h1, fun s hs => (by cases hs), h2⟩
  · rw [if_neg h]
    refine (dcut_at b off n w hl (by omega)).mono fun e w' ⟨h1, h2⟩ => ⟨(b.drop off).take n, by rw [List.length_take, List.length_drop]; omega, ?_, fun s hs => ?_, h2⟩
    · rw [h1]
      by_cases hm : numF b (off + n) = markF ((b.drop off).take n)
      · rw [if_pos hm, hm]; simp
      · rw [if_neg hm, beq_eq_false_iff_ne.2 hm]; rfl
    · split at hs
      · exact Option.some.inj hs
      · cases hs
set_option maxRecDepth 100000 in
theorem dchk_arg (ad : Option Addr) (cap : Nat) (l : List Ci) (size bits : Int) (w : World) (h : size < 1 ∨ 4096 < size ∨ bits < 1 ∨ 64 < bits) :
    Calls Tryz.prog 16 #[.slice ad l.length cap, .int .i64 size, .int .i64 bits] w fun e w' => e = .returned (.int .i64 1) ∧ Gr w w' := by
  by_cases h1 : size < 1
  · clear h
    go_enter Tryz.func16, Tryz.ntmps16
    go_wp2
    go_ret
    exact ⟨rfl, Gr.refl _⟩
  · by_cases h2 : 4096 < size
    · clear h
      go_enter Tryz.func16, Tryz.ntmps16
      go_wp2
      go_ret
      exact ⟨rfl, Gr.refl _⟩
    · by_cases h3 : bits < 1
      · clear h
        go_enter Tryz.func16, Tryz.ntmps16
        go_wp2
        go_ret
        exact ⟨rfl, Gr.refl _⟩
      · have h4 : 64 < bits := by omega
        clear h
        go_enter Tryz.func16, Tryz.ntmps16
        go_wp2
        go_ret
        exact ⟨rfl, Gr.refl _⟩
theorem any_big_of {l : List Ci} {i : Nat} (hi : i < l.length) (h : bigC l[i] = true) : l.any bigC = true := List.any_eq_true.2 ⟨_, List.getElem_mem hi, h⟩
theorem any_big_no {l : List Ci} (h : ∀ i (hi : i < l.length), bigC l[i] = false) : l.any bigC = false := by
  rw [List.any_eq_false]
  intro c hc
  obtain ⟨i, hi, rfl⟩ := List.getElem_of_mem hc
  rw [h i hi]; decide
set_option maxRecDepth 100000 in
set_option maxHeartbeats 2000000 in
theorem dchk_rest (ad : Option Addr) (cap : Nat) (l : List Ci) (size bits : Int) (w : World) (h1 : 1 ≤ size) (h2 : size ≤ 4096) (h3 : 1 ≤ bits) (h4 : bits ≤ 64) (hr : Row w ad (cv l)) (hl : l.length ≤ 9223372036854775807) (hvl : ∀ c ∈ l, c.val.length ≤ 9223372036854775807) :
    Calls Tryz.prog 16 #[.slice ad l.length cap, .int .i64 size, .int .i64 bits] w fun e w' => e = .returned (.int .i64 (chkT l size bits : Nat)) ∧ Gr w w' := by
  have HC := Lib.hid (show chkT l size bits = if 5000 < l.length ∨ l.any bigC = true then 14 else if l ≠ [] ∧ ordF l = true then 0 else 2 by unfold chkT; rw [if_neg (by omega)])
  have HR := Lib.hid hr.ci
  have HV := Lib.hid hvl
  have d1 : decide (size < 1) = false := decide_eq_false (by omega)
  have d2 : decide (4096 < size) = false := decide_eq_false (by omega)
  have d3 : decide (bits < 1) = false := decide_eq_false (by omega)
  have d4 : decide (64 < bits) = false := decide_eq_false (by omega)
  have HRt := Lib.hid (fun (c : Ci) (w : World) => rRight_any c.key c.seq c.kind w)
  have HL := Lib.hid (show ∀ (x c : Ci) (w : World), Calls Tryz.prog 24 #[ver x.key x.seq x.kind, ver c.key c.seq c.kind] w fun e w' => e = .returned (.bool (vless x.vr c.vr)) ∧ Gr w w' from fun x c w => rLess_any x.key c.key x.seq x.kind c.seq c.kind w)
  unfold ver at HRt HL
  obtain ⟨C, hC⟩ : ∃ C, C = chkT l size bits := ⟨_, rfl⟩
  rw [← hC] at HC ⊢
  clear hr hvl hC
  by_cases h5 : 5000 < l.length
  · have HX := Lib.hid (show C = 14 by rw [HC.out, if_pos (.inl h5)])
    go_enter Tryz.func16, Tryz.ntmps16
    go_wp2
    go_ret
    rw [HX.out]
    exact ⟨rfl, Gr.refl _⟩
  · have hl5 : l.length ≤ 5000 := by omega
    go_enter Tryz.func16, Tryz.ntmps16
    go_wp2
    go_loopw [7] (fun vi wr => ∃ i : Nat, vi = .int .i64 (i : Int) ∧ i ≤ l.length ∧ w = wr ∧ ∀ j (hj : j < l.length), j < i → bigC l[j] = false) (fun vi _ => l.length - (intOf vi).toNat)
    case atStart => exact ⟨0, rfl, Nat.zero_le _, rfl, fun j _ h => by omega⟩
    case round =>
      obtain ⟨i, rfl, hi, hW, hB⟩ := hrel
      subst hW
      have HB := Lib.hid hB
      clear hB
      by_cases hlt : i < l.length
      · obtain ⟨b, off, hade, e0, e1, e2, e3⟩ := HR.out i hlt
        subst hade
        have hv := HV.out _ (List.getElem_mem hlt)
        by_cases hbg : 1000 < l[i].val.length
        · have HX := Lib.hid (show C = 14 by rw [HC.out, if_pos (.inr (any_big_of hlt (by unfold bigC; exact decide_eq_true hbg)))])
          clear HC HB HV HR
          generalize l[i] = c at *
          go_wp2
          go_ret
          rw [HX.out]
          exact ⟨rfl, Gr.refl _⟩
        · have HN := Lib.hid (show ∀ j (hj : j < l.length), j < i + 1 → bigC l[j] = false from fun j hj hji => by
            rcases Nat.eq_or_lt_of_le (Nat.le_of_lt_succ hji) with e | e
            · subst e; unfold bigC; exact decide_eq_false hbg
            · exact HB.out j hj e)
          clear HC HB HV HR
          generalize l[i] = c at *
          go_wp2
          go_roundw
          case rel => exact ⟨i + 1, by go_num, hlt, trivial, HN.out⟩
          case measure => simp [intOf]; omega
      · obtain rfl : i = l.length := by omega
        have HC2 := Lib.hid (show C = if l ≠ [] ∧ ordF l = true then 0 else 2 by
          rw [HC.out, if_neg]
          rintro (h | h)
          · omega
          · rw [any_big_no (fun i hi => HB.out i hi hi)] at h; cases h)
        clear HC HB HV
        go_wp2
        go_loopw [8] (fun vi wr => ∃ i : Nat, vi = .int .i64 (i : Int) ∧ i ≤ l.length ∧ Gr w wr ∧ ∀ j, j < i → ordAt l j = true) (fun vi _ => l.length - (intOf vi).toNat)
        case atStart => exact ⟨0, rfl, Nat.zero_le _, Gr.refl _, fun j h => by omega⟩
        case round =>
          obtain ⟨i, rfl, hi, hG, hB⟩ := hrel
          have HB := Lib.hid hB
          have HG := Lib.hid hG
          clear hB
          by_cases hlt : i < l.length
          · obtain ⟨b, off, hade, e0, e1, e2, _⟩ := HR.out i hlt
            subst hade
            replace e0 := hG.cell e0
            replace e1 := hG.cell e1
            replace e2 := hG.cell e2
            have HRi := Lib.hid (HRt.out l[i])
            cases hok : okC l[i] with
            | false =>
              have HX := Lib.hid (show C = 2 by
                rw [HC2.out, if_neg]
                rintro ⟨_, h⟩
                have := ord_ok h _ (List.getElem_mem hlt)
                rw [hok] at this; cases this)
              rw [show okV l[i].key l[i].seq l[i].kind = false from hok] at HRi
              clear HC2 HB HR hok hG
              generalize l[i] = c at *
              go_wp2
              refine region_any_gr _ [Is (.slice (some ⟨b, off, none⟩) l.length cap), Is (.int .i64 (i : Int)), Is (.pointer (some ⟨b, off + i * 4, none⟩)), Is (.pointer (some ⟨b, off + i * 4, none⟩)), Is (.agg #[.string (str c.key), .int .i64 c.seq, .int .i64 c.kind]), Is (.bool false), Is (.bool true), Is (.bool true), Is (undef), Is (undef), Is (undef), Is (undef), Is (undef), Is (undef), Is (undef), Is (undef), Is (undef), Is (undef), Is (undef), Is (undef), Is (undef), Is (undef), Is (undef), Is (undef), Is (undef), Is (.bool true)] (by kernel_rfl) (by kernel_rfl) (by kernel_rfl) rfl rfl ⟨Is.stable _, Is.stable _, Is.stable _, Is.stable _, Is.stable _, Is.stable _, Is.stable _, Is.stable _, Is.stable _, Is.stable _, Is.stable _, Is.stable _, Is.stable _, Is.stable _, Is.stable _, Is.stable _, Is.stable _, Is.stable _, Is.stable _, Is.stable _, Is.stable _, Is.stable _, Is.stable _, Is.stable _, Is.stable _, Is.stable _, trivial⟩ ⟨?s0x1, ?s1x1, ?s2x1, ?s3x1, ?s4x1, ?s5x1, ?s6x1, ?s7x1, ?s8x1, ?s9x1, ?s10x1, ?s11x1, ?s12x1, ?s13x1, ?s14x1, ?s15x1, ?s16x1, ?s17x1, ?s18x1, ?s19x1, ?s20x1, ?s21x1, ?s22x1, ?s23x1, ?s24x1, ?s25x1, trivial⟩ ?finx1
              case' s0x1 | s1x1 | s2x1 | s3x1 | s4x1 | s5x1 | s6x1 | s7x1 | s8x1 | s9x1 | s10x1 | s11x1 | s12x1 | s13x1 | s14x1 | s15x1 | s16x1 | s17x1 | s18x1 | s19x1 | s20x1 | s21x1 | s22x1 | s23x1 | s24x1 | s25x1 =>
                intro ρ wr hρ hg hK
                simp [readsOf, slotsOf, Op.operands, Call.operands, tmpOf, List.filterMap_cons, List.filterMap_nil, KnownAll, knownOf, srcOf, depsOf, dstOf, Region.binds, nth, Is] at hK
                obtain ⟨hc, hf, hgl⟩ := hρ
                try simp only [wantedBy, dstOf, boolOf, nth, List.getD_cons_zero, List.getD_cons_succ, List.getElem?_cons_zero, List.getElem?_cons_succ, Option.bind_some, if_true, hK, BEq.rfl]
                try go_simp
                first | exact rfl | (rw [if_pos (by omega)]; exact is_here rfl) | (rw [dif_pos (by omega)]; exact is_here rfl) | exact congrArg (Value.int _) (IntWalk.i64_in _ ⟨by omega, by omega⟩) | skip
              case s4x1 => have z0 := hg.cell e0; have z1 := hg.cell e1; have z2 := hg.cell e2; go_simp; exact rfl
              case s5x1 => exact any_gr (HRi.out _)
              case finx1 =>
                intro w1 val hg hH
                simp only [Holds, Is, Nat.zero_add, Nat.reduceAdd] at hH
                obtain ⟨h0, h1, h2, h3, h4, h5, h6, h7, h8, h9, h10, h11, h12, h13, h14, h15, h16, h17, h18, h19, h20, h21, h22, h23, h24, h25, _⟩ := hH
                simp only [List.take_succ_cons, List.take_zero, List.drop_succ_cons, List.drop_zero, putAll, h0, h1, h2, h3, h4, h5, h6, h7, h8, h9, h10, h11, h12, h13, h14, h15, h16, h17, h18, h19, h20, h21, h22, h23, h24, h25, Nat.zero_add, Nat.reduceAdd]
                go_simp
                go_wp2
                go_ret
                rw [HX.out]
                exact ⟨rfl, HG.out.trans hg⟩
            | true =>
              rw [show okV l[i].key l[i].seq l[i].kind = true from hok] at HRi
              by_cases hi0 : i = 0
              · subst hi0
                have HX := Lib.hid (show ∀ j, j < 0 + 1 → ordAt l j = true from fun j hj => by
                  obtain rfl : j = 0 := by omega
                  rw [ordAt_zero hlt]; exact hok)
                clear HC2 HB HR hok hG
                generalize l[0] = c at *
                simp only [Nat.zero_mul, Nat.add_zero] at e0 e1 e2
                go_wp2
                refine region_any_gr _ [Is (.slice (some ⟨b, off, none⟩) l.length cap), Is (.int .i64 0), Is (.pointer (some ⟨b, off, none⟩)), Is (.pointer (some ⟨b, off, none⟩)), Is (.agg #[.string (str c.key), .int .i64 c.seq, .int .i64 c.kind]), Is (.bool true), Is (.bool false), Is (.bool false), Is (.int .i64 0), Is (.bool false), Is (.bool false), Is (undef), Is (undef), Is (undef), Is (undef), Is (undef), Is (undef), Is (undef), Is (undef), Is (undef), Is (undef), Is (undef), Is (undef), Is (undef), Is (.bool false), Is (.bool false)] (by kernel_rfl) (by kernel_rfl) (by kernel_rfl) rfl rfl ⟨Is.stable _, Is.stable _, Is.stable _, Is.stable _, Is.stable _, Is.stable _, Is.stable _, Is.stable _, Is.stable _, Is.stable _, Is.stable _, Is.stable _, Is.stable _, Is.stable _, Is.stable _, Is.stable _, Is.stable _, Is.stable _, Is.stable _, Is.stable _, Is.stable _, Is.stable _, Is.stable _, Is.stable _, Is.stable _, Is.stable _, trivial⟩ ⟨?s0x2, ?s1x2, ?s2x2, ?s3x2, ?s4x2, ?s5x2, ?s6x2, ?s7x2, ?s8x2, ?s9x2, ?s10x2, ?s11x2, ?s12x2, ?s13x2, ?s14x2, ?s15x2, ?s16x2, ?s17x2, ?s18x2, ?s19x2, ?s20x2, ?s21x2, ?s22x2, ?s23x2, ?s24x2, ?s25x2, trivial⟩ ?finx2
                case' s0x2 | s1x2 | s2x2 | s3x2 | s4x2 | s5x2 | s6x2 | s7x2 | s8x2 | s9x2 | s10x2 | s11x2 | s12x2 | s13x2 | s14x2 | s15x2 | s16x2 | s17x2 | s18x2 | s19x2 | s20x2 | s21x2 | s22x2 | s23x2 | s24x2 | s25x2 =>
                  intro ρ wr hρ hg hK
                  simp [readsOf, slotsOf, Op.operands, Call.operands, tmpOf, List.filterMap_cons, List.filterMap_nil, KnownAll, knownOf, srcOf, depsOf, dstOf, Region.binds, nth, Is] at hK
                  obtain ⟨hc, hf, hgl⟩ := hρ
                  try simp only [wantedBy, dstOf, boolOf, nth, List.getD_cons_zero, List.getD_cons_succ, List.getElem?_cons_zero, List.getElem?_cons_succ, Option.bind_some, if_true, hK, BEq.rfl]
                  try go_simp
                  first | exact rfl | (rw [if_pos (by omega)]; exact is_here rfl) | (rw [dif_pos (by omega)]; exact is_here rfl) | exact congrArg (Value.int _) (IntWalk.i64_in _ ⟨by omega, by omega⟩) | skip
                case s4x2 => have z0 := hg.cell e0; have z1 := hg.cell e1; have z2 := hg.cell e2; go_simp; exact rfl
                case s5x2 => exact any_gr (HRi.out _)
                case finx2 =>
                  intro w1 val hg hH
                  simp only [Holds, Is, Nat.zero_add, Nat.reduceAdd] at hH
                  obtain ⟨h0, h1, h2, h3, h4, h5, h6, h7, h8, h9, h10, h11, h12, h13, h14, h15, h16, h17, h18, h19, h20, h21, h22, h23, h24, h25, _⟩ := hH
                  simp only [List.take_succ_cons, List.take_zero, List.drop_succ_cons, List.drop_zero, putAll, h0, h1, h2, h3, h4, h5, h6, h7, h8, h9, h10, h11, h12, h13, h14, h15, h16, h17, h18, h19, h20, h21, h22, h23, h24, h25, Nat.zero_add, Nat.reduceAdd]
                  go_simp
                  go_wp2
                  go_roundw
                  case rel => exact ⟨1, rfl, hlt, HG.out.trans hg, HX.out⟩
                  case measure => simp [intOf] <;> omega
              · obtain ⟨k, hik⟩ : ∃ k, i = k + 1 := ⟨i - 1, by omega⟩
                have hkl : k < l.length := by omega
                have hk1 : (i : Int) - 1 = (k : Int) := by omega
                have hi2 : 0 < i := by omega
                have hkc : k < l.length := hkl
                obtain ⟨b', off', hade', q0, q1, q2, _⟩ := HR.out k hkl
                cases hade'
                replace q0 := hG.cell q0
                replace q1 := hG.cell q1
                replace q2 := hG.cell q2
                have HLk := Lib.hid (HL.out l[k] l[i])
                have hoa : ordAt l i = vless l[k].vr l[i].vr := by
                  subst hik
                  rw [ordAt_succ hlt, hok, Bool.true_and]
                cases hb : vless l[k].vr l[i].vr with
                | false =>
                  have HX := Lib.hid (show C = 2 by
                    rw [HC2.out, if_neg]
                    rintro ⟨_, h⟩
                    have := List.all_eq_true.1 h i (List.mem_range.2 hlt)
                    rw [hoa, hb] at this; cases this)
                  rw [hb] at HLk
                  clear HC2 HB HR hok hG hoa hb hik hi0
                  generalize l[k] = p at *
                  generalize l[i] = c at *
                  go_wp2
                  refine region_any_gr _ [Is (.slice (some ⟨b, off, none⟩) l.length cap), Is (.int .i64 (i : Int)), Is (.pointer (some ⟨b, off + i * 4, none⟩)), Is (.pointer (some ⟨b, off + i * 4, none⟩)), Is (.agg #[.string (str c.key), .int .i64 c.seq, .int .i64 c.kind]), Is (.bool true), Is (.bool false), Is (.bool false), Is (.int .i64 (i : Int)), Is (.bool true), Is (.bool true), Is (.slice (some ⟨b, off, none⟩) l.length cap), Is (.int .i64 (i : Int)), Is (.int .i64 (k : Int)), Is (.pointer (some ⟨b, off + k * 4, none⟩)), Is (.pointer (some ⟨b, off + k * 4, none⟩)), Is (.agg #[.string (str p.key), .int .i64 p.seq, .int .i64 p.kind]), Is (.slice (some ⟨b, off, none⟩) l.length cap), Is (.int .i64 (i : Int)), Is (.pointer (some ⟨b, off + i * 4, none⟩)), Is (.pointer (some ⟨b, off + i * 4, none⟩)), Is (.agg #[.string (str c.key), .int .i64 c.seq, .int .i64 c.kind]), Is (.bool false), Is (.bool true), Is (.bool true), Is (.bool true)] (by kernel_rfl) (by kernel_rfl) (by kernel_rfl) rfl rfl ⟨Is.stable _, Is.stable _, Is.stable _, Is.stable _, Is.stable _, Is.stable _, Is.stable _, Is.stable _, Is.stable _, Is.stable _, Is.stable _, Is.stable _, Is.stable _, Is.stable _, Is.stable _, Is.stable _, Is.stable _, Is.stable _, Is.stable _, Is.stable _, Is.stable _, Is.stable _, Is.stable _, Is.stable _, Is.stable _, Is.stable _, trivial⟩ ⟨?s0x3, ?s1x3, ?s2x3, ?s3x3, ?s4x3, ?s5x3, ?s6x3, ?s7x3, ?s8x3, ?s9x3, ?s10x3, ?s11x3, ?s12x3, ?s13x3, ?s14x3, ?s15x3, ?s16x3, ?s17x3, ?s18x3, ?s19x3, ?s20x3, ?s21x3, ?s22x3, ?s23x3, ?s24x3, ?s25x3, trivial⟩ ?finx3
                  case' s0x3 | s1x3 | s2x3 | s3x3 | s4x3 | s5x3 | s6x3 | s7x3 | s8x3 | s9x3 | s10x3 | s11x3 | s12x3 | s13x3 | s14x3 | s15x3 | s16x3 | s17x3 | s18x3 | s19x3 | s20x3 | s21x3 | s22x3 | s23x3 | s24x3 | s25x3 =>
                    intro ρ wr hρ hg hK
                    simp [readsOf, slotsOf, Op.operands, Call.operands, tmpOf, List.filterMap_cons, List.filterMap_nil, KnownAll, knownOf, srcOf, depsOf, dstOf, Region.binds, nth, Is] at hK
                    obtain ⟨hc, hf, hgl⟩ := hρ
                    try simp only [wantedBy, dstOf, boolOf, nth, List.getD_cons_zero, List.getD_cons_succ, List.getElem?_cons_zero, List.getElem?_cons_succ, Option.bind_some, if_true, hK, BEq.rfl]
                    try go_simp
                    first | exact rfl | (rw [if_pos (by omega)]; exact is_here rfl) | (rw [dif_pos (by omega)]; exact is_here rfl) | exact congrArg (Value.int _) (IntWalk.i64_in _ ⟨by omega, by omega⟩) | skip
                  case s4x3 => have z0 := hg.cell e0; have z1 := hg.cell e1; have z2 := hg.cell e2; go_simp; exact rfl
                  case s5x3 => exact any_gr (HRi.out _)
                  case s16x3 => have z0 := hg.cell q0; have z1 := hg.cell q1; have z2 := hg.cell q2; go_simp; exact rfl
                  case s21x3 => have z0 := hg.cell e0; have z1 := hg.cell e1; have z2 := hg.cell e2; go_simp; exact rfl
                  case s22x3 => exact any_gr (HLk.out _)
                  case finx3 =>
                    intro w1 val hg hH
                    simp only [Holds, Is, Nat.zero_add, Nat.reduceAdd] at hH
                    obtain ⟨h0, h1, h2, h3, h4, h5, h6, h7, h8, h9, h10, h11, h12, h13, h14, h15, h16, h17, h18, h19, h20, h21, h22, h23, h24, h25, _⟩ := hH
                    simp only [List.take_succ_cons, List.take_zero, List.drop_succ_cons, List.drop_zero, putAll, h0, h1, h2, h3, h4, h5, h6, h7, h8, h9, h10, h11, h12, h13, h14, h15, h16, h17, h18, h19, h20, h21, h22, h23, h24, h25, Nat.zero_add, Nat.reduceAdd]
                    go_simp
                    go_wp2
                    go_ret
                    rw [HX.out]
                    exact ⟨rfl, HG.out.trans hg⟩
                | true =>
                  have HX := Lib.hid (show ∀ j, j < i + 1 → ordAt l j = true from fun j hj => by
                    rcases Nat.eq_or_lt_of_le (Nat.le_of_lt_succ hj) with e | e
                    · rw [e, hoa, hb]
                    · exact HB.out j e)
                  rw [hb] at HLk
                  clear HC2 HB HR hok hG hoa hb hik hi0
                  generalize l[k] = p at *
                  generalize l[i] = c at *
                  go_wp2
                  refine region_any_gr _ [Is (.slice (some ⟨b, off, none⟩) l.length cap), Is (.int .i64 (i : Int)), Is (.pointer (some ⟨b, off + i * 4, none⟩)), Is (.pointer (some ⟨b, off + i * 4, none⟩)), Is (.agg #[.string (str c.key), .int .i64 c.seq, .int .i64 c.kind]), Is (.bool true), Is (.bool false), Is (.bool false), Is (.int .i64 (i : Int)), Is (.bool true), Is (.bool true), Is (.slice (some ⟨b, off, none⟩) l.length cap), Is (.int .i64 (i : Int)), Is (.int .i64 (k : Int)), Is (.pointer (some ⟨b, off + k * 4, none⟩)), Is (.pointer (some ⟨b, off + k * 4, none⟩)), Is (.agg #[.string (str p.key), .int .i64 p.seq, .int .i64 p.kind]), Is (.slice (some ⟨b, off, none⟩) l.length cap), Is (.int .i64 (i : Int)), Is (.pointer (some ⟨b, off + i * 4, none⟩)), Is (.pointer (some ⟨b, off + i * 4, none⟩)), Is (.agg #[.string (str c.key), .int .i64 c.seq, .int .i64 c.kind]), Is (.bool true), Is (.bool false), Is (.bool false), Is (.bool false)] (by kernel_rfl) (by kernel_rfl) (by kernel_rfl) rfl rfl ⟨Is.stable _, Is.stable _, Is.stable _, Is.stable _, Is.stable _, Is.stable _, Is.stable _, Is.stable _, Is.stable _, Is.stable _, Is.stable _, Is.stable _, Is.stable _, Is.stable _, Is.stable _, Is.stable _, Is.stable _, Is.stable _, Is.stable _, Is.stable _, Is.stable _, Is.stable _, Is.stable _, Is.stable _, Is.stable _, Is.stable _, trivial⟩ ⟨?s0x4, ?s1x4, ?s2x4, ?s3x4, ?s4x4, ?s5x4, ?s6x4, ?s7x4, ?s8x4, ?s9x4, ?s10x4, ?s11x4, ?s12x4, ?s13x4, ?s14x4, ?s15x4, ?s16x4, ?s17x4, ?s18x4, ?s19x4, ?s20x4, ?s21x4, ?s22x4, ?s23x4, ?s24x4, ?s25x4, trivial⟩ ?finx4
                  case' s0x4 | s1x4 | s2x4 | s3x4 | s4x4 | s5x4 | s6x4 | s7x4 | s8x4 | s9x4 | s10x4 | s11x4 | s12x4 | s13x4 | s14x4 | s15x4 | s16x4 | s17x4 | s18x4 | s19x4 | s20x4 | s21x4 | s22x4 | s23x4 | s24x4 | s25x4 =>
                    intro ρ wr hρ hg hK
                    simp [readsOf, slotsOf, Op.operands, Call.operands, tmpOf, List.filterMap_cons, List.filterMap_nil, KnownAll, knownOf, srcOf, depsOf, dstOf, Region.binds, nth, Is] at hK
                    obtain ⟨hc, hf, hgl⟩ := hρ
                    try simp only [wantedBy, dstOf, boolOf, nth, List.getD_cons_zero, List.getD_cons_succ, List.getElem?_cons_zero, List.getElem?_cons_succ, Option.bind_some, if_true, hK, BEq.rfl]
                    try go_simp
                    first | exact rfl | (rw [if_pos (by omega)]; exact is_here rfl) | (rw [dif_pos (by omega)]; exact is_here rfl) | exact congrArg (Value.int _) (IntWalk.i64_in _ ⟨by omega, by omega⟩) | skip
                  case s4x4 => have z0 := hg.cell e0; have z1 := hg.cell e1; have z2 := hg.cell e2; go_simp; exact rfl
                  case s5x4 => exact any_gr (HRi.out _)
                  case s16x4 => have z0 := hg.cell q0; have z1 := hg.cell q1; have z2 := hg.cell q2; go_simp; exact rfl
                  case s21x4 => have z0 := hg.cell e0; have z1 := hg.cell e1; have z2 := hg.cell e2; go_simp; exact rfl
                  case s22x4 => exact any_gr (HLk.out _)
                  case finx4 =>
                    intro w1 val hg hH
                    simp only [Holds, Is, Nat.zero_add, Nat.reduceAdd] at hH
                    obtain ⟨h0, h1, h2, h3, h4, h5, h6, h7, h8, h9, h10, h11, h12, h13, h14, h15, h16, h17, h18, h19, h20, h21, h22, h23, h24, h25, _⟩ := hH
                    simp only [List.take_succ_cons, List.take_zero, List.drop_succ_cons, List.drop_zero, putAll, h0, h1, h2, h3, h4, h5, h6, h7, h8, h9, h10, h11, h12, h13, h14, h15, h16, h17, h18, h19, h20, h21, h22, h23, h24, h25, Nat.zero_add, Nat.reduceAdd]
                    go_simp
                    go_wp2
                    go_roundw
                    case rel => exact ⟨i + 1, by go_num, hlt, HG.out.trans hg, HX.out⟩
                    case measure => simp [intOf]; omega
          · obtain rfl : i = l.length := by omega
            have hord : ordF l = true := ordF_good fun j hj => HB.out j hj
            by_cases h0 : l.length = 0
            · have hl0 := List.eq_nil_of_length_eq_zero h0
              have HX := Lib.hid (show C = 2 by rw [HC2.out, if_neg (fun h => h.1 hl0)])
              have h0b : ((l.length : Int) == 0) = true := by rw [beq_iff_eq]; omega
              clear HC2 HB HR hG hord hl0
              go_wp2
              go_ret
              rw [HX.out]
              exact ⟨rfl, HG.out⟩
            · have HX := Lib.hid (show C = 0 by rw [HC2.out, if_pos ⟨fun e => h0 (by rw [e]; rfl), hord⟩])
              have h0b : ((l.length : Int) == 0) = false := by rw [beq_eq_false_iff_ne]; omega
              clear HC2 HB HR hG hord
              go_wp2
              go_ret
              rw [HX.out]
              exact ⟨rfl, HG.out⟩
theorem dchk_any (ad : Option Addr) (cap : Nat) (l : List Ci) (size bits : Int) (w : World) (hr : Row w ad (cv l)) (hl : l.length ≤ 9223372036854775807) (hvl : ∀ c ∈ l, c.val.length ≤ 9223372036854775807) :
    Calls Tryz.prog 16 #[.slice ad l.length cap, .int .i64 size, .int .i64 bits] w fun e w' => e = .returned (.int .i64 (chkT l size bits : Nat)) ∧ Gr w w' := by
  by_cases h : size < 1 ∨ 4096 < size ∨ bits < 1 ∨ 64 < bits
  · have e : chkT l size bits = 1 := by unfold chkT; rw [if_pos h]
    rw [e]
    exact dchk_arg ad cap l size bits w h
  · exact dchk_rest ad cap l size bits w (by omega) (by omega) (by omega) (by omega) hr hl hvl
end Go.Proofs.YtlfbelocdpboeaaGreatDoor
