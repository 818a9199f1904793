/- Layer 14 (table): TableAsks answers true. -/
import Derived.Test.YtlfbelocdpboeaaDoorTabAskM
namespace Go.Proofs.YtlfbelocdpboeaaDoor
set_option linter.unusedVariables false
set_option linter.unusedSimpArgs false
open Go.RowKit Tab
theorem fromNone (w : World) : Calls Tryd.prog 11 #[.pointer none, .agg #[.string ⟨#[]⟩, .int .i64 0, .int .i64 0], .int .i64 1] w fun e w' => e = .returned (.tuple #[.slice none 0 0, .int .i64 1]) ∧ Gr w w' := tFrom_nil w ⟨[], 0, 0⟩ 1
theorem mayNone (w : World) : Calls Tryd.prog 13 #[.pointer none, .string ⟨#[97]⟩] w fun e w' => e = .returned (.bool true) ∧ w = w' := tMay_nil w [97]
set_option maxRecDepth 100000 in
set_option maxHeartbeats 2000000 in
theorem TableAsks_bad (ad : Option Addr) (cap : Nat) (l : List Ci) (x : Int) (ad2 : Option Addr) (cap2 : Nat) (asks : List Ak) (w : World) (hr : Row w ad (cv l)) (hl : l.length ≤ 9223372036854775807) (hvl : ∀ c ∈ l, c.val.length ≤ 9223372036854775807)
    (q : Nat) (hq : IntKind.i64.wrap ((IntKind.u64.wrap x).tmod 4096) = (q : Int)) (hq2 : q < 4096) (hc : chkT (riseC l) (1 + (q : Int)) 10 ≠ 0) :
    Calls Tryd.prog 5 #[.slice ad l.length cap, .int .i64 x, .slice ad2 asks.length cap2] w fun e w' => e = .returned (.bool true) ∧ Gr w w' := by
  have HRi := Lib.hid (rise_build (cap := cap) hr hl hvl)
  have hRl := riseC_len l
  have HB1 := Lib.hid (tBuild_row (riseC l) (1 + (q : Int)) 10 _ [] (chkT_two hc) _ rfl hRl)
  obtain ⟨e, he⟩ : ∃ e, e = chkT (riseC l) (1 + (q : Int)) 10 := ⟨_, rfl⟩
  rw [← he] at HB1 hc
  have heb : ((e : Int) != 0) = true := by rw [bne_iff_ne]; omega
  clear he hc hr hvl
  generalize riseC l = R at *
  go_enter Tryd.func5, Tryd.ntmps5
  go_wp2_with (first
    | (go_at_call 15; go_must (refine (none_any _).mono ?_); rintro e w' ⟨rfl, rfl⟩)
    | (go_at_call 11; go_must (refine (fromNone _).mono ?_); rintro e w1 ⟨rfl, g1⟩)
    | (go_at_call 7; go_must (refine (tabled_any _).mono ?_); rintro e w2 ⟨rfl, g2⟩)
    | (go_at_call 16; go_must (refine (Count_nil _).mono ?_); rintro e w' ⟨rfl, rfl⟩)
    | (go_at_call 13; go_must (refine (mayNone _).mono ?_); rintro e w' ⟨rfl, rfl⟩)
    | (go_at_call 9; go_must (refine (HRi.out _ (g1.trans g2)).mono ?_); rintro e2 w3 ⟨ad3, cp3, rfl, o3, g3⟩)
    | (go_at_call 8; go_must (refine (HB1.out ad3 cp3 _ o3.2.1 o3.row).mono ?_); rintro e3 w4 ⟨ad4, cp4, rfl, o4, g4⟩)
    | fail)
  go_ret
  exact ⟨rfl, ((g1.trans g2).trans g3).trans g4⟩
set_option maxRecDepth 100000 in
set_option maxHeartbeats 8000000 in
theorem TableAsks_ok (ad : Option Addr) (cap : Nat) (l : List Ci) (x : Int) (ad2 : Option Addr) (cap2 : Nat) (asks : List Ak) (w : World) (hr : Row w ad (cv l)) (hl : l.length ≤ 9223372036854775807) (hvl : ∀ c ∈ l, c.val.length ≤ 9223372036854775807)
    (hr2 : Row w ad2 (akv asks)) (hl2 : asks.length ≤ 9223372036854775807) (hk2 : ∀ c ∈ asks, c.ver.key.length ≤ 9223372036854775807 ∧ c.most ≤ 9223372036854775807)
    (q : Nat) (hq : IntKind.i64.wrap ((IntKind.u64.wrap x).tmod 4096) = (q : Int)) (hq2 : q < 4096) (hc : chkT (riseC l) (1 + (q : Int)) 10 = 0) :
    Calls Tryd.prog 5 #[.slice ad l.length cap, .int .i64 x, .slice ad2 asks.length cap2] w fun e w' => e = .returned (.bool true) ∧ Gr w w' := by
  have HRi := Lib.hid (rise_build (cap := cap) hr hl hvl)
  have hRl := riseC_len l
  obtain ⟨b, hb⟩ := build_pair hc
  have HB1 := Lib.hid (tBuild_row (riseC l) (1 + (q : Int)) 10 0 b hb _ rfl hRl)
  have hbl := (open_build hc).2.2.1
  have hb24 := (open_build hc).2.2.2
  rw [hb] at hbl hb24
  have hOp := fun ad cap w' => Open_own hc ad cap w'
  rw [hb] at hOp
  have HO1 := Lib.hid hOp
  have HBt := Lib.hid (built_of hc)
  have hsh : Short (keysF (riseC l)) := fun s hs => by
    obtain ⟨c, h1, h2⟩ := keys_mem hs
    have := keyC_le ((built_of hc).ok c h1)
    rw [h2] at this
    omega
  have hkl := keys_len (riseC l)
  have hbg : buildF (keysF (riseC l)) 10 = (filterF (keysF (riseC l)) 10, 0) := build_good (keys := keysF (riseC l)) (b := 10) (by decide) (by decide) (by omega)
  have HDB := Lib.hid (show ∀ (a : Option Addr) (c n : Nat) (w' : World), n = (keysF (riseC l)).length → Row w' a (sv (keysF (riseC l))) → Calls Tryd.prog 17 #[.slice a n c, .int .i64 10] w' fun e w2 => e = .returned (.tuple #[.string (str (filterF (keysF (riseC l)) 10)), .int .i64 0]) ∧ Gr w' w2 from fun a c n w' hn h => by
    subst hn
    have := rDocBuild_any a c (keysF (riseC l)) 10 w' (by omega) h hsh (by decide) (by decide)
    rw [hbg] at this
    exact this)
  rw [hbg] at HO1 HBt
  have hfl := HBt.out.flen
  simp only at hfl HO1 HBt
  have HKN := Lib.hid (fun i (hi : i < (riseC l).length) => keys_next hi)
  have HKL := Lib.hid (fun i => keys_few (riseC l) i)
  have HKA := Lib.hid (show keysF ((riseC l).take (riseC l).length) = keysF (riseC l) by rw [List.take_length])
  have HRQ := Lib.hid hr2
  have HKQ := Lib.hid hk2
  simp only at hbl hb24
  have hbl2 : (b.length : Int) ≤ 23000000 := by omega
  clear hb hc hr hvl hOp hsh hbg hkl hr2 hk2
  generalize filterF (keysF (riseC l)) 10 = f at *
  generalize riseC l = R at *
  go_enter Tryd.func5, Tryd.ntmps5
  go_wp2_with (first
    | (go_at_call 15; go_must (refine (none_any _).mono ?_); rintro e w' ⟨rfl, rfl⟩)
    | (go_at_call 11; go_must (refine (fromNone _).mono ?_); rintro e w1 ⟨rfl, g1⟩)
    | (go_at_call 7; go_must (refine (tabled_any _).mono ?_); rintro e w2 ⟨rfl, g2⟩)
    | (go_at_call 16; go_must (refine (Count_nil _).mono ?_); rintro e w' ⟨rfl, rfl⟩)
    | (go_at_call 13; go_must (refine (mayNone _).mono ?_); rintro e w' ⟨rfl, rfl⟩)
    | (go_at_call 9; go_must (refine (HRi.out _ (g1.trans g2)).mono ?_); rintro e2 w3 ⟨ad3, cp3, rfl, o3, g3⟩)
    | (go_at_call 8; go_must (refine (HB1.out ad3 cp3 _ o3.2.1 o3.row).mono ?_); rintro e3 w4 ⟨ad4, cp4, rfl, o4, g4⟩)
    | (go_at_call 10; go_must (refine (HO1.out ad4 cp4 w4 o4.2.1 o4.2.2.1 o4.bytes).mono ?_); rintro e4 w5 ⟨gt, rfl, t5, g5⟩)
    | fail)
  have bM := Blk.new w5 52 #[.slice ad3 R.length cp3, .string ⟨#[]⟩]
  have gM : Gr w5 (w5.alloc (.cells #[.slice ad3 R.length cp3, .string ⟨#[]⟩] 52)) := Gr.alloc _ _
  have HMb := Lib.hid bM
  have HT := Lib.hid (t5.gr gM)
  have HOb := Lib.hid ((o4.gr g5).gr gM)
  have HRo := Lib.hid (((o3.gr g4).gr g5).gr gM)
  have HG := Lib.hid (((((g1.trans g2).trans g3).trans g4).trans g5).trans gM)
  have HA3 := Lib.hid (show ∀ a, ad3 = some a → a.block < w3.heap.size from fun a ha => (o3.lt a ha).2)
  have HA4 := Lib.hid (show ∀ a, ad4 = some a → w3.heap.size ≤ a.block ∧ a.block < w4.heap.size from fun a ha => o4.lt a ha)
  have HSz := Lib.hid (show w.heap.size ≤ w3.heap.size ∧ w4.heap.size ≤ w5.heap.size from ⟨((g1.trans g2).trans g3).size, g5.size⟩)
  have hcm4 := o4.2.2.1
  have hcb4 := o4.2.1
  clear bM gM o3 o4 t5 g1 g2 g3 g4 g5
  obtain ⟨gm, hgm⟩ : ∃ gm, gm = w5.heap.size := ⟨_, rfl⟩
  simp only [← hgm] at HMb HSz ⊢
  generalize w5.alloc (.cells #[.slice ad3 R.length cp3, .string ⟨#[]⟩] 52) = W at *
  clear hgm
  go_loopw [12, 13] (fun vk vi wr => ∃ (i : Nat) (adk : Option Addr) (ck : Nat), vi = .int .i64 (i : Int) ∧ i ≤ R.length ∧ vk = .slice adk (keysF (R.take i)).length ck ∧ Owns wr W.heap.size 9 1 adk ck (keysF (R.take i)).length (sv (keysF (R.take i))) ∧ Gr W wr) (fun _ vi _ => R.length - (intOf vi).toNat)
  case atStart => exact ⟨0, none, 0, rfl, Nat.zero_le _, rfl, Owns.empty _ _ _ _, Gr.refl _⟩
  case round =>
    obtain ⟨i, adk, ck, rfl, hi, rfl, hO, hG⟩ := hrel
    have HGr := Lib.hid hG
    have HO := Lib.hid hO
    by_cases hlt : i < R.length
    · obtain ⟨bt, ot, had, e0, _⟩ := HRo.out.row.ci i hlt
      subst had
      replace e0 := hG.cell e0
      have hX := HKN.out i hlt
      have hKl := HKL.out i
      clear HKN HKL hG HDB
      generalize R[i] = c at *
      generalize keysF (R.take i) = K at *
      by_cases hk0 : K.length = 0
      · have hK := List.eq_nil_of_length_eq_zero hk0
        subst hK
        have HX := Lib.hid (show keysF (R.take (i + 1)) = [] ++ [c.key] from hX)
        clear hX hk0
        go_wp2
        refine region_any_gr _ [Is (.slice adk 0 ck), Is (.int .i64 0), Is (.bool true), Is (.bool true), Is (undef), Is (undef), Is (undef), Is (undef), Is (undef), Is (undef), Is (undef), Is (undef), Is (undef), Is (undef), Is (undef), Is (undef), Is (undef), Is (.bool true)] (by kernel_rfl) (by kernel_rfl) (by kernel_rfl) rfl rfl ⟨Is.stable _, Is.stable _, Is.stable _, Is.stable _, Is.stable _, Is.stable _, Is.stable _, Is.stable _, Is.stable _, Is.stable _, Is.stable _, Is.stable _, Is.stable _, Is.stable _, Is.stable _, Is.stable _, Is.stable _, Is.stable _, trivial⟩ ⟨?s0, ?s1, ?s2, ?s3, ?s4, ?s5, ?s6, ?s7, ?s8, ?s9, ?s10, ?s11, ?s12, ?s13, ?s14, ?s15, ?s16, ?s17, trivial⟩ ?fin
        case' s0 | s1 | s2 | s3 | s4 | s5 | s6 | s7 | s8 | s9 | s10 | s11 | s12 | s13 | s14 | s15 | s16 | s17 =>
          intro ρ wr hρ hg hK
          simp [readsOf, slotsOf, Op.operands, Call.operands, tmpOf, List.filterMap_cons, List.filterMap_nil, KnownAll, knownOf, srcOf, depsOf, dstOf, Region.binds, nth, Is] at hK
          obtain ⟨hc, hf, hgl⟩ := hρ
          try simp only [wantedBy, dstOf, boolOf, nth, List.getD_cons_zero, List.getD_cons_succ, List.getElem?_cons_zero, List.getElem?_cons_succ, Option.bind_some, if_true, hK, BEq.rfl]
          try go_simp
          first | exact rfl | (rw [if_pos (by omega)]; exact is_here rfl) | (rw [dif_pos (by omega)]; exact is_here rfl) | exact congrArg (Value.int _) (IntWalk.i64_in _ ⟨by omega, by omega⟩) | skip
        case fin =>
          intro w1 val hg hH
          simp only [Holds, Is, Nat.zero_add, Nat.reduceAdd] at hH
          obtain ⟨h0, h1, h2, h3, h4, h5, h6, h7, h8, h9, h10, h11, h12, h13, h14, h15, h16, h17, _⟩ := hH
          simp only [List.take_succ_cons, List.take_zero, List.drop_succ_cons, List.drop_zero, putAll, h0, h1, h2, h3, h4, h5, h6, h7, h8, h9, h10, h11, h12, h13, h14, h15, h16, h17, Nat.zero_add, Nat.reduceAdd]
          have m1 : ([] : List (List UInt8)).length + 1 ≤ maxLen := by decide
          have m2 : (([] : List (List UInt8)).length + 1) * 16 ≤ 140737488355328 := by decide
          have HO1 := Lib.hid (HO.out.gr (hg.trans (Gr.alloc w1 (.cells #[.string (str c.key)] 9))))
          have HG1 := Lib.hid (HGr.out.trans (hg.trans (Gr.alloc w1 (.cells #[.string (str c.key)] 9))))
          replace e0 := hg.cell e0
          go_simp
          go_wp2_with (first
            | (at_builtin; go_must (refine wp_append elemS rfl _ _ rfl rfl HO1.out rfl (src_cellg _ (.string (str c.key)) rfl Tryd.underlying53 _ (by simp)) m1 m2 HG1.out.size ?_); intro ad7 c7 w7 o7 k7 f7)
            | fail)
          go_roundw
          case rel =>
            refine ⟨i + 1, ad7, c7, by go_num, hlt, by rw [HX.out]; simp, ?_, ?_⟩
            · rw [HX.out, sv_append, List.length_append]
              exact o7
            · exact grown_own HG1.out k7 HO1.out (Nat.le_refl _)
          case measure => simp [intOf]; omega
      · have hkp : 0 < K.length := by omega
        obtain ⟨m, hm⟩ : ∃ m, m = K.length - 1 := ⟨_, rfl⟩
        have hmk : m < K.length := by omega
        have hm1 : (K.length : Int) - 1 = (m : Int) := by omega
        have hkb : ((K.length : Int) == 0) = false := by rw [beq_eq_false_iff_ne]; omega
        obtain ⟨gk, had, _, z0⟩ := hO.at (sv_get K m hmk)
        subst had
        rw [addK_last hkp] at hX
        simp only [← hm] at hX
        have m1 : K.length + 1 ≤ maxLen := by unfold maxLen; omega
        have m2 : (K.length + 1) * 16 ≤ 140737488355328 := by omega
        have hck := hO.2.1
        have hmc : m < ck := by omega
        generalize K[m] = s at *
        clear hm hk0 hO
        by_cases hs : s = c.key
        · rw [if_pos hs] at hX
          have HX := Lib.hid hX
          have hsb : (s == c.key) = true := by rw [hs]; exact beq_self_eq_true _
          have hsb2 : (s != c.key) = false := by rw [hs]; simp
          clear hX
          subst hs
          go_wp2
          refine region_any_gr _ [Is (.slice (some ⟨gk, 0, none⟩) K.length ck), Is (.int .i64 (K.length : Int)), Is (.bool false), Is (.bool false), Is (.slice (some ⟨gk, 0, none⟩) K.length ck), Is (.slice (some ⟨gk, 0, none⟩) K.length ck), Is (.int .i64 (K.length : Int)), Is (.int .i64 (m : Int)), Is (.pointer (some ⟨gk, m, none⟩)), Is (.string (str c.key)), Is (.slice (some ⟨bt, ot, none⟩) R.length cp3), Is (.int .i64 (i : Int)), Is (.pointer (some ⟨bt, ot + i * 4, none⟩)), Is (.pointer (some ⟨bt, ot + i * 4, none⟩)), Is (.pointer (some ⟨bt, ot + i * 4, none⟩)), Is (.string (str c.key)), Is (.bool false), Is (.bool false)] (by kernel_rfl) (by kernel_rfl) (by kernel_rfl) rfl rfl ⟨Is.stable _, Is.stable _, Is.stable _, Is.stable _, Is.stable _, Is.stable _, Is.stable _, Is.stable _, Is.stable _, Is.stable _, Is.stable _, Is.stable _, Is.stable _, Is.stable _, Is.stable _, Is.stable _, Is.stable _, Is.stable _, trivial⟩ ⟨?s0x1, ?s1x1, ?s2x1, ?s3x1, ?s4x1, ?s5x1, ?s6x1, ?s7x1, ?s8x1, ?s9x1, ?s10x1, ?s11x1, ?s12x1, ?s13x1, ?s14x1, ?s15x1, ?s16x1, ?s17x1, trivial⟩ ?finx1
          case' s0x1 | s1x1 | s2x1 | s3x1 | s4x1 | s5x1 | s6x1 | s7x1 | s8x1 | s9x1 | s10x1 | s11x1 | s12x1 | s13x1 | s14x1 | s15x1 | s16x1 | s17x1 =>
            intro ρ wr hρ hg hK
            simp [readsOf, slotsOf, Op.operands, Call.operands, tmpOf, List.filterMap_cons, List.filterMap_nil, KnownAll, knownOf, srcOf, depsOf, dstOf, Region.binds, nth, Is] at hK
            obtain ⟨hc, hf, hgl⟩ := hρ
            try simp only [wantedBy, dstOf, boolOf, nth, List.getD_cons_zero, List.getD_cons_succ, List.getElem?_cons_zero, List.getElem?_cons_succ, Option.bind_some, if_true, hK, BEq.rfl]
            try go_simp
            first | exact rfl | (rw [if_pos (by omega)]; exact is_here rfl) | (rw [dif_pos (by omega)]; exact is_here rfl) | exact congrArg (Value.int _) (IntWalk.i64_in _ ⟨by omega, by omega⟩) | skip
          case s9x1 => have z := hg.cell z0; go_simp; exact rfl
          case s15x1 => have z := hg.cell e0; go_simp; exact rfl
          case finx1 =>
            intro w1 val hg hH
            simp only [Holds, Is, Nat.zero_add, Nat.reduceAdd] at hH
            obtain ⟨h0, h1, h2, h3, h4, h5, h6, h7, h8, h9, h10, h11, h12, h13, h14, h15, h16, h17, _⟩ := hH
            simp only [List.take_succ_cons, List.take_zero, List.drop_succ_cons, List.drop_zero, putAll, h0, h1, h2, h3, h4, h5, h6, h7, h8, h9, h10, h11, h12, h13, h14, h15, h16, h17, Nat.zero_add, Nat.reduceAdd]
            go_simp
            go_wp2
            go_roundw
            case rel => exact ⟨i + 1, some ⟨gk, 0, none⟩, ck, by go_num, hlt, by rw [HX.out], by rw [HX.out]; exact HO.out.gr hg, HGr.out.trans hg⟩
            case measure => simp [intOf]; omega
        · rw [if_neg hs] at hX
          have HX := Lib.hid hX
          have hsb : (s == c.key) = false := by rw [beq_eq_false_iff_ne]; exact hs
          have hsb2 : (s != c.key) = true := by rw [bne_iff_ne]; exact hs
          clear hX hs
          go_wp2
          refine region_any_gr _ [Is (.slice (some ⟨gk, 0, none⟩) K.length ck), Is (.int .i64 (K.length : Int)), Is (.bool false), Is (.bool false), Is (.slice (some ⟨gk, 0, none⟩) K.length ck), Is (.slice (some ⟨gk, 0, none⟩) K.length ck), Is (.int .i64 (K.length : Int)), Is (.int .i64 (m : Int)), Is (.pointer (some ⟨gk, m, none⟩)), Is (.string (str s)), Is (.slice (some ⟨bt, ot, none⟩) R.length cp3), Is (.int .i64 (i : Int)), Is (.pointer (some ⟨bt, ot + i * 4, none⟩)), Is (.pointer (some ⟨bt, ot + i * 4, none⟩)), Is (.pointer (some ⟨bt, ot + i * 4, none⟩)), Is (.string (str c.key)), Is (.bool true), Is (.bool true)] (by kernel_rfl) (by kernel_rfl) (by kernel_rfl) rfl rfl ⟨Is.stable _, Is.stable _, Is.stable _, Is.stable _, Is.stable _, Is.stable _, Is.stable _, Is.stable _, Is.stable _, Is.stable _, Is.stable _, Is.stable _, Is.stable _, Is.stable _, Is.stable _, Is.stable _, Is.stable _, Is.stable _, trivial⟩ ⟨?s0x2, ?s1x2, ?s2x2, ?s3x2, ?s4x2, ?s5x2, ?s6x2, ?s7x2, ?s8x2, ?s9x2, ?s10x2, ?s11x2, ?s12x2, ?s13x2, ?s14x2, ?s15x2, ?s16x2, ?s17x2, trivial⟩ ?finx2
          case' s0x2 | s1x2 | s2x2 | s3x2 | s4x2 | s5x2 | s6x2 | s7x2 | s8x2 | s9x2 | s10x2 | s11x2 | s12x2 | s13x2 | s14x2 | s15x2 | s16x2 | s17x2 =>
            intro ρ wr hρ hg hK
            simp [readsOf, slotsOf, Op.operands, Call.operands, tmpOf, List.filterMap_cons, List.filterMap_nil, KnownAll, knownOf, srcOf, depsOf, dstOf, Region.binds, nth, Is] at hK
            obtain ⟨hc, hf, hgl⟩ := hρ
            try simp only [wantedBy, dstOf, boolOf, nth, List.getD_cons_zero, List.getD_cons_succ, List.getElem?_cons_zero, List.getElem?_cons_succ, Option.bind_some, if_true, hK, BEq.rfl]
            try go_simp
            first | exact rfl | (rw [if_pos (by omega)]; exact is_here rfl) | (rw [dif_pos (by omega)]; exact is_here rfl) | exact congrArg (Value.int _) (IntWalk.i64_in _ ⟨by omega, by omega⟩) | skip
          case s9x2 => have z := hg.cell z0; go_simp; exact rfl
          case s15x2 => have z := hg.cell e0; go_simp; exact rfl
          case finx2 =>
            intro w1 val hg hH
            simp only [Holds, Is, Nat.zero_add, Nat.reduceAdd] at hH
            obtain ⟨h0, h1, h2, h3, h4, h5, h6, h7, h8, h9, h10, h11, h12, h13, h14, h15, h16, h17, _⟩ := hH
            simp only [List.take_succ_cons, List.take_zero, List.drop_succ_cons, List.drop_zero, putAll, h0, h1, h2, h3, h4, h5, h6, h7, h8, h9, h10, h11, h12, h13, h14, h15, h16, h17, Nat.zero_add, Nat.reduceAdd]
            have HO1 := Lib.hid (HO.out.gr (hg.trans (Gr.alloc w1 (.cells #[.string (str c.key)] 9))))
            have HG1 := Lib.hid (HGr.out.trans (hg.trans (Gr.alloc w1 (.cells #[.string (str c.key)] 9))))
            replace e0 := hg.cell e0
            go_simp
            go_wp2_with (first
              | (at_builtin; go_must (refine wp_append elemS rfl _ _ rfl rfl HO1.out rfl (src_cellg _ (.string (str c.key)) rfl Tryd.underlying53 _ (by simp)) m1 m2 HG1.out.size ?_); intro ad7 c7 w7 o7 k7 f7)
              | fail)
            go_roundw
            case rel =>
              refine ⟨i + 1, ad7, c7, by go_num, hlt, by rw [HX.out]; simp, ?_, ?_⟩
              · rw [HX.out, sv_append, List.length_append]
                exact o7
              · exact grown_own HG1.out k7 HO1.out (Nat.le_refl _)
            case measure => simp [intOf]; omega
    · obtain rfl : i = R.length := by omega
      rw [HKA.out] at hO
      have HGk := Lib.hid hG
      simp only [HKA.out]
      have HRow := Lib.hid hO.row
      clear hO HO HGr hG HKN HKL HKA
      obtain ⟨kn, hkn⟩ : ∃ kn, kn = (keysF R).length := ⟨_, rfl⟩
      have HKn := Lib.hid hkn
      rw [← hkn]
      clear hkn
      go_wp2_with (first
        | (go_at_call 17; go_must (refine (HDB.out adk ck kn _ HKn.out HRow.out).mono ?_); rintro e w6 ⟨rfl, g6⟩)
        | fail)
      have HG6 := Lib.hid (HGk.out.trans g6)
      obtain ⟨gb, hadb⟩ : ∃ gb, ad4 = some ⟨gb, 0, none⟩ := by
        obtain ⟨gb, h, _⟩ := (HOb.out).at (bv_get b 0 (by omega))
        exact ⟨gb, h⟩
      subst hadb
      have HOw := Lib.hid (HOb.out.gr HG6.out)
      have hgb := HA4.out _ rfl
      simp only at hgb
      have HGB := Lib.hid hgb
      clear g6 HGk HRow hgb
      go_loopw [15] (fun vi wr => ∃ (i : Nat) (bs : List UInt8), vi = .int .i64 (i : Int) ∧ i ≤ b.length ∧ bs.length = b.length ∧ Owns wr w3.heap.size 5 1 (some ⟨gb, 0, none⟩) cp4 b.length (bv bs) ∧ w6.grownBy wr (some gb)) (fun vi _ => b.length - (intOf vi).toNat)
      case atStart => exact ⟨0, b, rfl, Nat.zero_le _, rfl, HOw.out, (Gr.refl _).far⟩
      case round =>
        obtain ⟨i, bs, rfl, hi, hbs, hOb, hGb⟩ := hrel
        have HGb := Lib.hid hGb
        have HOb2 := Lib.hid hOb
        have HBS := Lib.hid hbs
        by_cases hlt : i < b.length
        · obtain ⟨gb2, hadb2, _, z0⟩ := hOb.at (bv_get bs i (by omega))
          cases hadb2
          have f0 := hOb.unfrozen rfl (i := i) (by omega)
          generalize bs[i] = xb at *
          clear hOb hGb hbs
          go_wp2
          go_roundw
          case rel =>
            refine ⟨i + 1, bs.set i 119, by go_num, hlt, by rw [List.length_set, HBS.out], ?_, grown_trans HGb.out (grown_set _ gb i _)⟩
            have := HOb2.out.store rfl hlt (.int .u8 ((119 : UInt8).toNat : Int))
            rw [bv_set] at this
            exact this
          case measure => simp [intOf]; omega
        · obtain rfl : i = b.length := by omega
          have HT8 := Lib.hid (((HT.out.gr HG6.out).far HGb.out HGB.out.2).at_)
          have HM8 := Lib.hid (show RefAt _ gm R from RefAt.ne_ (HMb.out.gr HG6.out) (HRo.out.gr HG6.out).row HGb.out (by have h1 := HGB.out.2; have h2 := HSz.out.2; omega) (fun a ha => by have h1 := HA3.out a ha; have h2 := HGB.out.1; omega))
          have HG8 := Lib.hid ((HG.out.trans HG6.out).of_far HGb.out (Nat.le_trans HSz.out.1 HGB.out.1))
          obtain ⟨W8, hW8⟩ : ∃ x, x = wr := ⟨_, rfl⟩
          subst hW8
          clear hOb hGb hbs HOb2 HBS HGb HT HMb HG HOw HG6 HA3 HA4 HSz HGB hb24
          clear hlt
          have HRA := Lib.hid (HRQ.out.gr HG8.out)
          have HGet := Lib.hid (fun w' h ak hk sq => HBt.out.get w' gt h ak hk sq)
          have HFr := Lib.hid (fun w' h v most => HBt.out.fromE w' gt h v most)
          have HAh := Lib.hid (fun w' h v most h1 => HBt.out.aheadE w' gt h v most h1)
          have HMy := Lib.hid (fun w' h ak hk => HBt.out.may w' gt h ak hk)
          clear HRQ HBt
          go_wp2
          go_loopw [16] (fun vi wr => ∃ i : Nat, vi = .int .i64 (i : Int) ∧ i ≤ asks.length ∧ i ≤ 60 ∧ Gr W8 wr) (fun vi _ => 60 - (intOf vi).toNat)
          case atStart => exact ⟨0, rfl, Nat.zero_le _, Nat.zero_le _, Gr.refl _⟩
          case round =>
            obtain ⟨j, rfl, hj, hj60, hGj⟩ := hrel
            by_cases hlt : j < asks.length ∧ j < 60
            · obtain ⟨hlt, hlt2⟩ := hlt
              obtain ⟨ba, oa, hada, e0, e1, e2, e3, e4⟩ := HRA.out.ask5 j hlt
              subst hada
              replace e0 := hGj.cell e0
              replace e1 := hGj.cell e1
              replace e2 := hGj.cell e2
              replace e3 := hGj.cell e3
              replace e4 := hGj.cell e4
              have HKj := Lib.hid (HKQ.out _ (List.getElem_mem hlt))
              generalize asks[j] = a at *
              obtain ⟨aw, ⟨ak, asq, akd⟩, am⟩ := a
              simp only at e0 e1 e2 e3 e4 HKj
              have HGj := Lib.hid hGj
              obtain ⟨W9, hW9⟩ : ∃ x, x = wr := ⟨_, rfl⟩
              subst hW9
              have b5 := Blk.new W9 57 #[.int .i64 aw, .string (str ak), .int .i64 asq, .int .i64 akd, .int .i64 am]
              have HGa := Lib.hid (HGj.out.trans (Gr.alloc W9 (.cells #[.int .i64 aw, .string (str ak), .int .i64 asq, .int .i64 akd, .int .i64 am] 57)))
              obtain ⟨y0, y1, y2, y3, y4⟩ : _ ∧ _ ∧ _ ∧ _ ∧ _ := ⟨b5.cell (i := 0) rfl, b5.cell (i := 1) rfl, b5.cell (i := 2) rfl, b5.cell (i := 3) rfl, b5.cell (i := 4) rfl⟩
              clear b5 hGj HRA
              by_cases h1 : aw = 1
              · subst h1
                have HG1 := Lib.hid (HGet.out _ (HT8.out.gr HGa.out) ak HKj.out.1 asq)
                have HG2 := Lib.hid (fun w' (k : Gr W8 w') => rGet_of w' gm R ak asq (HM8.out.gr k) (by omega))
                generalize rgetF R ak asq = z at *
                obtain ⟨⟨zk, zs, zd, zv⟩, ze⟩ := z
                unfold cellOf at HG1 HG2
                simp only at HG1 HG2
                clear HGet HFr HAh HMy
                go_wp2_with (first
                  | (go_at_call 18; go_must (refine HG1.out.mono ?_); rintro e wa ⟨rfl, ga⟩
                     have ka := ga.trans (Gr.alloc wa (.cells #[.string (str zk), .int .i64 zs, .int .i64 zd, .string (str zv)] 44))
                     replace y1 := ka.cell y1; replace y2 := ka.cell y2
                     have bz := Blk.new wa 44 #[.string (str zk), .int .i64 zs, .int .i64 zd, .string (str zv)]
                     have HBz := Lib.hid bz
                     have HGb2 := Lib.hid (HGa.out.trans ka)
                     clear bz ka ga)
                  | (go_at_call 19; go_must (refine (HG2.out _ HGb2.out).mono ?_); rintro e wc ⟨rfl, gc⟩
                     have kc := gc.trans (Gr.alloc wc (.cells #[.string (str zk), .int .i64 zs, .int .i64 zd, .string (str zv)] 44))
                     have b1 := HBz.out.gr kc
                     have b2 := Blk.new wc 44 #[.string (str zk), .int .i64 zs, .int .i64 zd, .string (str zv)]
                     obtain ⟨p0, p1, p2, p3⟩ : _ ∧ _ ∧ _ ∧ _ := ⟨b1.cell (i := 0) rfl, b1.cell (i := 1) rfl, b1.cell (i := 2) rfl, b1.cell (i := 3) rfl⟩
                     obtain ⟨p4, p5, p6, p7⟩ : _ ∧ _ ∧ _ ∧ _ := ⟨b2.cell (i := 0) rfl, b2.cell (i := 1) rfl, b2.cell (i := 2) rfl, b2.cell (i := 3) rfl⟩
                     have HGc := Lib.hid (HGb2.out.trans kc)
                     clear b1 b2 kc gc)
                  | fail)
                go_roundw
                case rel => exact ⟨j + 1, by go_num, hlt, hlt2, HGc.out⟩
                case measure => simp [intOf]; omega
              · have hb1 : ((aw : Int) == 1) = false := by rw [beq_eq_false_iff_ne]; exact h1
                by_cases h2 : aw = 2
                · subst h2
                  have HG1 := Lib.hid (HFr.out _ (HT8.out.gr HGa.out) ⟨ak, asq, akd⟩ am)
                  have HG2 := Lib.hid (fun w' (k : Gr W8 w') => rFromE w' gm R ⟨ak, asq, akd⟩ am (HM8.out.gr k) (by omega))
                  generalize hz : fromE R ⟨ak, asq, akd⟩ am = z at *
                  have hzl : z.1.length ≤ 60 := by rw [← hz]; exact Nat.le_trans (fromE_len R ⟨ak, asq, akd⟩ am) hRl
                  obtain ⟨X, er⟩ := z
                  unfold RetCe ver at HG1 HG2
                  simp only at HG1 HG2 hzl
                  clear hz HGet HFr HAh HMy
                  go_wp2_with (first
                    | (go_at_call 11; go_must (refine HG1.out.mono ?_); rintro e wa ⟨adx, cx, rfl, ox, ga⟩
                       replace y1 := ga.cell y1; replace y2 := ga.cell y2; replace y3 := ga.cell y3; replace y4 := ga.cell y4
                       have HGb2 := Lib.hid (HGa.out.trans ga))
                    | (go_at_call 20; go_must (refine (HG2.out _ HGb2.out).mono ?_); rintro e wc ⟨ady, cy, rfl, oy, gc⟩)
                    | (go_at_call 14; go_must (refine (rCells_same adx ady _ _ cx cy X wc rfl rfl (ox.gr gc).row oy.row (by omega)).mono ?_); rintro e wd ⟨rfl, gd⟩)
                    | fail)
                  have HOx := Lib.hid ((ox.gr gc).gr gd)
                  have HGd := Lib.hid (HGb2.out.trans (gc.trans gd))
                  have HBx := Lib.hid (show W8.heap.size ≤ _ from HGa.out.size)
                  clear ox oy ga gc gd y0 y1 y2 y3 y4
                  try simp only [show decide ((j : Int) < 60) = true from decide_eq_true (by omega)]
                  go_loopw [26] (fun vk wk => ∃ (k : Nat) (X' : List Ci), vk = .int .i64 (k : Int) ∧ k ≤ X.length ∧ X'.length = X.length ∧ Owns wk (W9.alloc (.cells #[.int .i64 2, .string (str ak), .int .i64 asq, .int .i64 akd, .int .i64 am] 57)).heap.size 44 4 adx cx X.length (cv X') ∧ Gr W8 wk) (fun vk _ => X.length - (intOf vk).toNat)
                  case atStart => exact ⟨0, X, rfl, Nat.zero_le _, rfl, HOx.out, HGd.out⟩
                  case round =>
                    obtain ⟨k, X', rfl, hk, hXl, hOk, hGk⟩ := hrel
                    have HXl := Lib.hid hXl
                    have HGk := Lib.hid hGk
                    by_cases hkx : k < X.length
                    · have HOk := Lib.hid hOk
                      rw [← hXl] at hOk hkx
                      obtain ⟨gx, hax, hgx, _⟩ := hOk.at (cv_get X' k hkx 0 (by decide))
                      subst hax
                      obtain ⟨⟨q0, q1, q2, q3⟩, f0, f1, f2, f3⟩ := hOk.ci hkx
                      have HMk := Lib.hid (HOk.out.mark HXl.out rfl (by rw [← HXl.out]; exact hkx) 33)
                      generalize X'[k] = x0 at *
                      rw [hXl] at hkx
                      have hcx := HOk.out.2.1
                      have hkc : k < cx := by omega
                      have HGX := Lib.hid (Nat.le_trans HBx.out hgx)
                      clear hOk hGk hXl hgx
                      go_wp2
                      go_roundw
                      case rel =>
                        obtain ⟨D', hD1, hD2⟩ := HMk.out
                        refine ⟨k + 1, D', by go_num, hkx, hD1, hD2, ?_⟩
                        exact HGk.out.of_far (grown4 _ gx (k * 4) _ _ _ _) HGX.out
                      case measure => simp [intOf]; omega
                    · obtain rfl : k = X.length := by omega
                      clear hOk hGk hXl HXl HOx HGd
                      go_wp2
                      go_roundw
                      case rel => exact ⟨j + 1, by go_num, hlt, hlt2, HGk.out⟩
                      case measure => simp [intOf]; omega
                · have hb2 : ((aw : Int) == 2) = false := by rw [beq_eq_false_iff_ne]; exact h2
                  by_cases h3 : aw = 3
                  · subst h3
                    have HG1 := Lib.hid (HAh.out _ (HT8.out.gr HGa.out) ⟨ak, asq, akd⟩ am HKj.out.2)
                    have HG2 := Lib.hid (fun w' (k : Gr W8 w') => rAheadE w' gm R ⟨ak, asq, akd⟩ am (HM8.out.gr k) (by omega))
                    generalize hz : aheadE R ⟨ak, asq, akd⟩ am = z at *
                    have hzl : z.1.length ≤ 60 := by rw [← hz]; exact Nat.le_trans (aheadE_len R ⟨ak, asq, akd⟩ am) hRl
                    obtain ⟨X, er⟩ := z
                    unfold RetCe ver at HG1 HG2
                    simp only at HG1 HG2 hzl
                    clear hz HGet HFr HAh HMy
                    go_wp2_with (first
                      | (go_at_call 21; go_must (refine HG1.out.mono ?_); rintro e wa ⟨adx, cx, rfl, ox, ga⟩
                         replace y1 := ga.cell y1; replace y2 := ga.cell y2; replace y3 := ga.cell y3; replace y4 := ga.cell y4
                         have HGb2 := Lib.hid (HGa.out.trans ga))
                      | (go_at_call 22; go_must (refine (HG2.out _ HGb2.out).mono ?_); rintro e wc ⟨ady, cy, rfl, oy, gc⟩)
                      | (go_at_call 14; go_must (refine (rCells_same adx ady _ _ cx cy X wc rfl rfl (ox.gr gc).row oy.row (by omega)).mono ?_); rintro e wd ⟨rfl, gd⟩)
                      | fail)
                    have HOx := Lib.hid ((ox.gr gc).gr gd)
                    have HGd := Lib.hid (HGb2.out.trans (gc.trans gd))
                    have HBx := Lib.hid (show W8.heap.size ≤ _ from HGa.out.size)
                    clear ox oy ga gc gd y0 y1 y2 y3 y4
                    try simp only [show decide ((j : Int) < 60) = true from decide_eq_true (by omega)]
                    go_loopw [31] (fun vk wk => ∃ (k : Nat) (X' : List Ci), vk = .int .i64 (k : Int) ∧ k ≤ X.length ∧ X'.length = X.length ∧ Owns wk (W9.alloc (.cells #[.int .i64 3, .string (str ak), .int .i64 asq, .int .i64 akd, .int .i64 am] 57)).heap.size 44 4 adx cx X.length (cv X') ∧ Gr W8 wk) (fun vk _ => X.length - (intOf vk).toNat)
                    case atStart => exact ⟨0, X, rfl, Nat.zero_le _, rfl, HOx.out, HGd.out⟩
                    case round =>
                      obtain ⟨k, X', rfl, hk, hXl, hOk, hGk⟩ := hrel
                      have HXl := Lib.hid hXl
                      have HGk := Lib.hid hGk
                      by_cases hkx : k < X.length
                      · have HOk := Lib.hid hOk
                        rw [← hXl] at hOk hkx
                        obtain ⟨gx, hax, hgx, _⟩ := hOk.at (cv_get X' k hkx 0 (by decide))
                        subst hax
                        obtain ⟨⟨q0, q1, q2, q3⟩, f0, f1, f2, f3⟩ := hOk.ci hkx
                        have HMk := Lib.hid (HOk.out.mark HXl.out rfl (by rw [← HXl.out]; exact hkx) 63)
                        generalize X'[k] = x0 at *
                        rw [hXl] at hkx
                        have hcx := HOk.out.2.1
                        have hkc : k < cx := by omega
                        have HGX := Lib.hid (Nat.le_trans HBx.out hgx)
                        clear hOk hGk hXl hgx
                        go_wp2
                        go_roundw
                        case rel =>
                          obtain ⟨D', hD1, hD2⟩ := HMk.out
                          refine ⟨k + 1, D', by go_num, hkx, hD1, hD2, ?_⟩
                          exact HGk.out.of_far (grown4 _ gx (k * 4) _ _ _ _) HGX.out
                        case measure => simp [intOf]; omega
                      · obtain rfl : k = X.length := by omega
                        clear hOk hGk hXl HXl HOx HGd
                        go_wp2
                        go_roundw
                        case rel => exact ⟨j + 1, by go_num, hlt, hlt2, HGk.out⟩
                        case measure => simp [intOf]; omega
                  · have hb3 : ((aw : Int) == 3) = false := by rw [beq_eq_false_iff_ne]; exact h3
                    have HG1 := Lib.hid (fun w' (k : Gr W8 w') => HMy.out w' (HT8.out.gr k) ak HKj.out.1)
                    have HG2 := Lib.hid (fun w' => rDocMay_any f ak w' (by omega) HKj.out.1)
                    generalize mayF f (Bloom.hashF ak) = mv at *
                    clear HGet HFr HAh HMy h1 h2 h3
                    go_wp2
                    generalize W9.heap.size = ga at *
                    generalize W9.alloc (.cells #[.int .i64 aw, .string (str ak), .int .i64 asq, .int .i64 akd, .int .i64 am] 57) = Wa at *
                    refine region_any_gr _ [Is (.pointer (some ⟨gt, 0, none⟩)), Is (.pointer (some ⟨ga, 1, none⟩)), Is (.pointer (some ⟨ga, 1, none⟩)), Is (.string (str ak)), Is (.bool mv), Is (.string (str f)), Is (.pointer (some ⟨ga, 1, none⟩)), Is (.pointer (some ⟨ga, 1, none⟩)), Is (.string (str ak)), Is (.bool mv), Is (.bool false)] (by kernel_rfl) (by kernel_rfl) (by kernel_rfl) rfl rfl ⟨Is.stable _, Is.stable _, Is.stable _, Is.stable _, Is.stable _, Is.stable _, Is.stable _, Is.stable _, Is.stable _, Is.stable _, Is.stable _, trivial⟩ ⟨?s0x3, ?s1x3, ?s2x3, ?s3x3, ?s4x3, ?s5x3, ?s6x3, ?s7x3, ?s8x3, ?s9x3, ?s10x3, trivial⟩ ?finx3
                    case' s0x3 | s1x3 | s2x3 | s3x3 | s4x3 | s5x3 | s6x3 | s7x3 | s8x3 | s9x3 | s10x3 =>
                      intro ρ wr hρ hg hK
                      simp [readsOf, slotsOf, Op.operands, Call.operands, tmpOf, List.filterMap_cons, List.filterMap_nil, KnownAll, knownOf, srcOf, depsOf, dstOf, Region.binds, nth, Is] at hK
                      obtain ⟨hc, hf, hgl⟩ := hρ
                      try simp only [wantedBy, dstOf, boolOf, nth, List.getD_cons_zero, List.getD_cons_succ, List.getElem?_cons_zero, List.getElem?_cons_succ, Option.bind_some, if_true, hK, BEq.rfl]
                      try go_simp
                      first | exact rfl | (rw [if_pos (by omega)]; exact is_here rfl) | (rw [dif_pos (by omega)]; exact is_here rfl) | exact congrArg (Value.int _) (IntWalk.i64_in _ ⟨by omega, by omega⟩) | skip
                    case s3x3 => have z := hg.cell y1; go_simp; exact rfl
                    case s8x3 => have z := hg.cell y1; go_simp; exact rfl
                    case s4x3 => exact any_gr (HG1.out _ (HGa.out.trans hg))
                    case s9x3 => exact any_gr (HG2.out _)
                    case finx3 =>
                      intro w1 val hg hH
                      simp only [Holds, Is, Nat.zero_add, Nat.reduceAdd] at hH
                      obtain ⟨h0, h1, h2, h3, h4, h5, h6, h7, h8, h9, h10, _⟩ := hH
                      simp only [List.take_succ_cons, List.take_zero, List.drop_succ_cons, List.drop_zero, putAll, h0, h1, h2, h3, h4, h5, h6, h7, h8, h9, h10, Nat.zero_add, Nat.reduceAdd]
                      have HGe := Lib.hid (HGa.out.trans hg)
                      go_simp
                      go_wp2
                      go_roundw
                      case rel => exact ⟨j + 1, by go_num, hlt, hlt2, HGe.out⟩
                      case measure => simp [intOf]; omega
            · have hx : asks.length ≤ j ∨ (j < asks.length ∧ 60 ≤ j) := by omega
              have HGe := Lib.hid (HG8.out.trans hGj)
              clear HGet HFr HAh HMy hGj HRA
              rcases hx with hx | ⟨hx, hx2⟩
              all_goals
                go_wp2
                go_ret
                exact ⟨rfl, HGe.out⟩
theorem TableAsks_any (ad : Option Addr) (cap : Nat) (l : List Ci) (x : Int) (ad2 : Option Addr) (cap2 : Nat) (asks : List Ak) (w : World) (hr : Row w ad (cv l)) (hl : l.length ≤ 9223372036854775807) (hvl : ∀ c ∈ l, c.val.length ≤ 9223372036854775807)
    (hr2 : Row w ad2 (akv asks)) (hl2 : asks.length ≤ 9223372036854775807) (hk2 : ∀ c ∈ asks, c.ver.key.length ≤ 9223372036854775807 ∧ c.most ≤ 9223372036854775807) :
    Calls Tryd.prog 5 #[.slice ad l.length cap, .int .i64 x, .slice ad2 asks.length cap2] w fun e w' => e = .returned (.bool true) ∧ Gr w w' := by
  obtain ⟨q, hq, hq2⟩ := u64_mod x 4096 (by decide) (by decide)
  by_cases hc : chkT (riseC l) (1 + (q : Int)) 10 = 0
  · exact TableAsks_ok ad cap l x ad2 cap2 asks w hr hl hvl hr2 hl2 hk2 q hq hq2 hc
  · exact TableAsks_bad ad cap l x ad2 cap2 asks w hr hl hvl q hq hq2 hc
end Go.Proofs.YtlfbelocdpboeaaDoor
