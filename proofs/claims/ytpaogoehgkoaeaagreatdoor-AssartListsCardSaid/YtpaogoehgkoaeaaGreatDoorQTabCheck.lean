/- Layer 14 (table): check walked. -/
import Derived.Test.YtpaogoehgkoaeaaGreatDoorQTabLay
import Derived.Test.YtpaogoehgkoaeaaGreatDoorQBunB0
namespace Go.Proofs.YtpaogoehgkoaeaaGreatDoor
set_option linter.unusedVariables false
set_option linter.unusedSimpArgs false
open Go.RowKit Tab
theorem tbig_any (c : Ci) (w : World) : Calls Tryz.prog 89 #[.agg #[.string (str c.key), .int .i64 c.seq, .int .i64 c.kind, .string (str c.val)]] w fun e w' => e = .returned (.bool (bigC c)) ∧ Gr w w' := by
  obtain ⟨k, s, d, v⟩ := c
  have HL := Lib.hid (show bigC ⟨k, s, d, v⟩ = decide ((1000 : Int) < (v.length : Int)) by
    unfold bigC
    rw [decide_eq_decide]
    show 1000 < v.length ↔ _
    omega)
  dsimp only
  go_enter Tryz.func89, Tryz.ntmps89
  go_wp2
  go_ret
  exact ⟨by rw [HL.out]; rfl, Gr.alloc _ _⟩
set_option maxRecDepth 100000 in
theorem tindex_big (ad : Option Addr) (cap : Nat) (l : List Ci) (w : World) (hl : l.length ≤ 9223372036854775807) (hr : Row w ad (cv l)) :
    Calls Tryz.prog 131 #[.slice ad l.length cap, .func (.func 89) #[] #[]] w fun e w' => ∃ z : Int, e = .returned (.int .i64 z) ∧ decide (0 ≤ z) = l.any bigC ∧ Gr w w' := by
  have HR := Lib.hid hr.ci; clear hr
  go_enter Tryz.func131, Tryz.ntmps131
  go_wp2
  go_loopw [8] (fun v wr => ∃ i : Nat, i ≤ l.length ∧ v = .int .i64 (i : Int) ∧ Gr w wr ∧ (l.take i).any bigC = false) (fun v _ => l.length - (intOf v).toNat)
  case atStart => exact ⟨0, Nat.zero_le _, rfl, Gr.refl _, rfl⟩
  case round =>
    obtain ⟨i, hi, rfl, hg, hn⟩ := hrel
    have HN := Lib.hid hn; clear hn
    by_cases hlt : i < l.length
    · obtain ⟨b, off, rfl, hc1, hc2, hc3, hc4⟩ := HR.out i hlt
      have q1 := hg.cell hc1
      have q2 := hg.cell hc2
      have q3 := hg.cell hc3
      have q4 := hg.cell hc4
      have HT := Lib.hid (show (l.take (i + 1)).any bigC = bigC l[i] by rw [List.take_succ_eq_append_getElem hlt, List.any_append, HN.out]; simp)
      have HM := Lib.hid (List.getElem_mem hlt)
      have HA := Lib.hid (fun w => tbig_any l[i] w)
      clear hc1 hc2 hc3 hc4
      generalize l[i] = p at *
      cases hb : bigC p with
      | true =>
        rw [hb] at HA
        have HB := Lib.hid hb; clear hb
        go_wp2_with (go_at_call 89; refine (HA.out _).mono ?_; rintro e w1 ⟨rfl, g1⟩)
        go_ret
        exact ⟨_, rfl, by rw [List.any_eq_true.2 ⟨p, HM.out, HB.out⟩]; simp, hg.trans g1⟩
      | false =>
        rw [hb] at HA HT
        have HB := Lib.hid hb; clear hb
        go_wp2_with (go_at_call 89; refine (HA.out _).mono ?_; rintro e w1 ⟨rfl, g1⟩)
        go_roundw
        case rel => exact ⟨i + 1, hlt, by go_num, hg.trans g1, HT.out⟩
        case measure => simp [intOf]; omega
    · obtain rfl : i = l.length := by omega
      go_wp2
      go_ret
      exact ⟨_, rfl, by have := HN.out; rw [List.take_length] at this; rw [this]; rfl, hg⟩
theorem tcontains_big (ad : Option Addr) (cap : Nat) (l : List Ci) (w : World) (hl : l.length ≤ 9223372036854775807) (hr : Row w ad (cv l)) :
    Calls Tryz.prog 88 #[.slice ad l.length cap, .func (.func 89) #[] #[]] w fun e w' => e = .returned (.bool (l.any bigC)) ∧ Gr w w' := by
  have HI := Lib.hid (tindex_big ad cap l w hl hr)
  go_enter Tryz.func88, Tryz.ntmps88
  go_wp2_with (go_at_call 131; refine HI.out.mono ?_; rintro e w1 ⟨z, rfl, hz, g1⟩)
  go_ret
  exact ⟨by rw [← hz]; rfl, g1⟩
theorem tcheck_arg (ad : Option Addr) (cap : Nat) (l : List Ci) (size bits : Int) (w : World) (h : size < 1 ∨ 4096 < size ∨ bits < 1 ∨ 64 < bits) :
    Calls Tryz.prog 41 #[.slice ad l.length cap, .int .i64 size, .int .i64 bits] w fun e w' => e = .returned (.int .i64 1) ∧ Gr w w' := by
  by_cases h1 : size < 1
  · clear h
    go_enter Tryz.func41, Tryz.ntmps41
    go_wp2
    go_ret
    exact ⟨rfl, Gr.refl _⟩
  by_cases h2 : 4096 < size
  · clear h
    go_enter Tryz.func41, Tryz.ntmps41
    go_wp2
    go_ret
    exact ⟨rfl, Gr.refl _⟩
  by_cases h3 : bits < 1
  · clear h
    go_enter Tryz.func41, Tryz.ntmps41
    go_wp2
    go_ret
    exact ⟨rfl, Gr.refl _⟩
  · have h4 : 64 < bits := by omega
    clear h
    go_enter Tryz.func41, Tryz.ntmps41
    go_wp2
    go_ret
    exact ⟨rfl, Gr.refl _⟩
theorem tcheck_big (ad : Option Addr) (cap : Nat) (l : List Ci) (size bits : Int) (w : World) (h1 : 1 ≤ size) (h2 : size ≤ 4096) (h3 : 1 ≤ bits) (h4 : bits ≤ 64) (hl : l.length ≤ 9223372036854775807) (hr : Row w ad (cv l)) (hb : 5000 < l.length ∨ l.any bigC = true) :
    Calls Tryz.prog 41 #[.slice ad l.length cap, .int .i64 size, .int .i64 bits] w fun e w' => e = .returned (.int .i64 14) ∧ Gr w w' := by
  have HC := Lib.hid (tcontains_big ad cap l w hl hr)
  by_cases h5 : 5000 < l.length
  · clear hb
    go_enter Tryz.func41, Tryz.ntmps41
    go_wp2
    go_ret
    exact ⟨rfl, Gr.refl _⟩
  · have hb2 : l.any bigC = true := by
      rcases hb with h | h
      · exact absurd h h5
      · exact h
    rw [hb2] at HC
    clear hb hb2
    go_enter Tryz.func41, Tryz.ntmps41
    go_wp2_with (go_at_call 88; refine HC.out.mono ?_; rintro e w1 ⟨rfl, g1⟩)
    go_ret
    exact ⟨rfl, g1⟩
theorem ordF_bad {l : List Ci} {i : Nat} (hi : i < l.length) (h : ordAt l i = false) : ordF l = false := by
  unfold ordF
  rw [Bool.eq_false_iff]
  intro ha
  have := List.all_eq_true.1 ha i (List.mem_range.2 hi)
  rw [h] at this; cases this
theorem ordF_good {l : List Ci} (h : ∀ i, i < l.length → ordAt l i = true) : ordF l = true := by
  unfold ordF
  rw [List.all_eq_true]
  intro i hi
  exact h i (List.mem_range.1 hi)
theorem ordAt_zero {l : List Ci} (hi : 0 < l.length) : ordAt l 0 = okC l[0] := by
  unfold ordAt
  rw [getD_get _ hi]
  simp
theorem ordAt_succ {l : List Ci} {i : Nat} (hi : i + 1 < l.length) : ordAt l (i + 1) = (okC l[i + 1] && vless l[i].vr l[i + 1].vr) := by
  unfold ordAt
  rw [getD_get _ hi, show i + 1 - 1 = i by omega, getD_get _ (show i < l.length by omega)]
  simp
set_option maxRecDepth 100000 in
set_option maxHeartbeats 4000000 in
theorem tcheck_rest (ad : Option Addr) (cap : Nat) (l : List Ci) (size bits : Int) (w : World) (h1 : 1 ≤ size) (h2 : size ≤ 4096) (h3 : 1 ≤ bits) (h4 : bits ≤ 64) (hr : Row w ad (cv l)) (hl : l.length ≤ 5000) (h0 : 1 ≤ l.length) (hb : l.any bigC = false) :
    Calls Tryz.prog 41 #[.slice ad l.length cap, .int .i64 size, .int .i64 bits] w fun e w' => e = .returned (.int .i64 (if ordF l = true then 0 else 2)) ∧ Gr w w' := by
  have HC := Lib.hid (tcontains_big ad cap l w (by omega) hr)
  rw [hb] at HC
  have HR := Lib.hid hr.ci; clear hr hb
  obtain ⟨r, hrr⟩ : ∃ r : Int, r = (if ordF l = true then 0 else 2) := ⟨_, rfl⟩
  have HRr := Lib.hid hrr
  rw [← hrr]
  clear hrr
  have d1 : decide (size < 1) = false := decide_eq_false (by omega)
  have d2 : decide (4096 < size) = false := decide_eq_false (by omega)
  have d3 : decide (bits < 1) = false := decide_eq_false (by omega)
  have d4 : decide (64 < bits) = false := decide_eq_false (by omega)
  have d5 : decide ((5000 : Int) < (l.length : Int)) = false := decide_eq_false (by omega)
  have d6 : ((l.length : Int) == 0) = false := by rw [beq_eq_false_iff_ne]; omega
  clear h1 h2 h3 h4
  go_enter Tryz.func41, Tryz.ntmps41
  go_wp2_with (go_at_call 88; refine HC.out.mono ?_; rintro e w1 ⟨rfl, g1⟩)
  go_loopw [38] (fun v wr => ∃ i : Nat, i ≤ l.length ∧ v = .int .i64 (i : Int) ∧ Gr w wr ∧ (∀ j, j < i → ordAt l j = true)) (fun v _ => l.length - (intOf v).toNat)
  case atStart => exact ⟨0, Nat.zero_le _, rfl, g1, fun j hj => by omega⟩
  case round =>
    obtain ⟨i, hi, rfl, hg, hn⟩ := hrel
    have HN := Lib.hid hn; clear hn
    by_cases hlt : i < l.length
    · obtain ⟨b, off, rfl, e0, e1, e2, e3⟩ := HR.out i hlt
      have q0 := hg.cell e0
      have q1 := hg.cell e1
      have q2 := hg.cell e2
      have q3 := hg.cell e3
      have HCk := Lib.hid (fun w => Check_any l[i].key l[i].seq l[i].kind w)
      have HOk := Lib.hid (show okC l[i] = okV l[i].key l[i].seq l[i].kind from rfl)
      have HLs := Lib.hid (fun (hp : i - 1 < l.length) w => Less_any l[i - 1].key l[i].key l[i - 1].seq l[i - 1].kind l[i].seq l[i].kind w)
      unfold ver at HCk HLs
      have HZ := Lib.hid (fun (h : i = 0) => show ordAt l i = okC l[i] by subst h; exact ordAt_zero hlt)
      have HS := Lib.hid (fun (h : 1 ≤ i) => show ordAt l i = (okC l[i] && vless (l[i - 1]'(by omega)).vr l[i].vr) by
        obtain ⟨i0, rfl⟩ : ∃ i0, i = i0 + 1 := ⟨i - 1, by omega⟩
        exact ordAt_succ hlt)
      clear e0 e1 e2 e3
      obtain ⟨bx, hbx⟩ : ∃ x, x = wr.heap.size := ⟨_, rfl⟩
      generalize hc : l[i] = c at q0 q1 q2 q3 HCk HOk HLs HZ HS
      obtain ⟨ck, cs, cd, cval⟩ := c
      simp only at q0 q1 q2 q3 HCk HOk HLs
      go_upto_region 10 with (fail)
      rw [← hbx]
      have HB := Lib.hid (show Blk (wr.alloc (.cells #[.string (str ck), .int .i64 cs, .int .i64 cd, .string (str cval)] 56)) bx 56 [.string (str ck), .int .i64 cs, .int .i64 cd, .string (str cval)] by rw [hbx]; exact Blk.new _ _ _)
      have gb := Gr.alloc wr (.cells #[.string (str ck), .int .i64 cs, .int .i64 cd, .string (str cval)] 56)
      have HGb := Lib.hid (hg.trans gb)
      generalize (wr.alloc (.cells #[.string (str ck), .int .i64 cs, .int .i64 cd, .string (str cval)] 56)) = wb at *
      clear hbx q0 q1 q2 q3 gb hg
      cases hok : okV ck cs cd with
      | false =>
        have HC1 := Lib.hid (show ∀ w, Calls Tryz.prog 87 #[.agg #[.string (str ck), .int .i64 cs, .int .i64 cd]] w fun e w' => e = .returned (.int .i64 1) ∧ Gr w w' from fun w => by have := HCk.out w; rw [chk_no hok] at this; exact this)
        have HX := Lib.hid (show r = 2 by
          rw [HRr.out, ordF_bad hlt (by
            by_cases hi0 : i = 0
            · rw [HZ.out hi0, HOk.out, hok]
            · rw [HS.out (by omega), HOk.out, hok]; rfl)]
          rfl)
        clear hok HCk HLs HZ HS HOk
        as_aux_lemma =>
          refine region_any_gr _ [Is (.pointer (some ⟨bx, 0, none⟩)), Is (.agg #[.string (str ck), .int .i64 cs, .int .i64 cd]), Is (.int .i64 1), Is (.bool true), Is (.bool true), Is (undef), Is (undef), Is (undef), Is (undef), Is (undef), Is (undef), Is (undef), Is (undef), Is (undef), Is (undef), Is (undef), Is (undef), Is (undef), Is (undef), Is (.bool true)] (by kernel_rfl) (by kernel_rfl) (by kernel_rfl) rfl rfl ⟨Is.stable _, Is.stable _, Is.stable _, Is.stable _, Is.stable _, Is.stable _, Is.stable _, Is.stable _, Is.stable _, Is.stable _, Is.stable _, Is.stable _, Is.stable _, Is.stable _, Is.stable _, Is.stable _, Is.stable _, Is.stable _, Is.stable _, Is.stable _, trivial⟩ ⟨?s0, ?s1, ?s2, ?s3, ?s4, ?s5, ?s6, ?s7, ?s8, ?s9, ?s10, ?s11, ?s12, ?s13, ?s14, ?s15, ?s16, ?s17, ?s18, ?s19, trivial⟩ ?fin
          case' s0 | s1 | s2 | s3 | s4 | s5 | s6 | s7 | s8 | s9 | s10 | s11 | s12 | s13 | s14 | s15 | s16 | s17 | s18 | s19 =>
            intro ρ wr hρ hg hK
            simp [readsOf, slotsOf, Op.operands, Call.operands, tmpOf, List.filterMap_cons, List.filterMap_nil, KnownAll, knownOf, srcOf, depsOf, dstOf, Region.binds, nth, Is] at hK
            obtain ⟨hc, hf, hgl⟩ := hρ
            try simp only [wantedBy, dstOf, boolOf, nth, List.getD_cons_zero, List.getD_cons_succ, List.getElem?_cons_zero, List.getElem?_cons_succ, Option.bind_some, if_true, hK, BEq.rfl]
            try go_simp
            first | exact rfl | (rw [if_pos (by omega)]; exact is_here rfl) | (rw [dif_pos (by omega)]; exact is_here rfl) | exact congrArg (Value.int _) (IntWalk.i64_in _ ⟨by omega, by omega⟩) | skip
          case s1 =>
            have z := HB.out.gr hg
            have z0 := z.cell (i := 0) rfl
            have z1 := z.cell (i := 1) rfl
            have z2 := z.cell (i := 2) rfl
            go_simp
            exact rfl
          case s2 => exact any_gr (HC1.out wr)
          case fin =>
            intro w1 val hg hH
            simp only [Holds, Is, Nat.zero_add, Nat.reduceAdd] at hH
            obtain ⟨h0, h1, h2, h3, h4, h5, h6, h7, h8, h9, h10, h11, h12, h13, h14, h15, h16, h17, h18, h19, _⟩ := hH
            simp only [List.take_succ_cons, List.take_zero, List.drop_succ_cons, List.drop_zero, putAll, h0, h1, h2, h3, h4, h5, h6, h7, h8, h9, h10, h11, h12, h13, h14, h15, h16, h17, h18, h19, Nat.zero_add, Nat.reduceAdd]
            have HG := Lib.hid (HGb.out.trans hg)
            clear hg
            go_simp
            go_wp2
            go_ret
            exact ⟨by rw [HX.out]; rfl, HG.out⟩
      | true =>
        have HC1 := Lib.hid (show ∀ w, Calls Tryz.prog 87 #[.agg #[.string (str ck), .int .i64 cs, .int .i64 cd]] w fun e w' => e = .returned (.int .i64 0) ∧ Gr w w' from fun w => by have := HCk.out w; rw [chk_yes hok] at this; exact this)
        by_cases hi0 : i = 0
        · have HT := Lib.hid (show ∀ j, j < i + 1 → ordAt l j = true from fun j hj => by
            by_cases hji : j < i
            · exact HN.out j hji
            · have : j = i := by omega
              rw [this, HZ.out hi0, HOk.out, hok])
          have hd : decide ((0 : Int) < (i : Int)) = false := decide_eq_false (by omega)
          have hd2 : decide (0 < i) = false := decide_eq_false (by omega)
          clear hok HCk HLs HZ HS HOk hi0
          as_aux_lemma =>
            refine region_any_gr _ [Is (.pointer (some ⟨bx, 0, none⟩)), Is (.agg #[.string (str ck), .int .i64 cs, .int .i64 cd]), Is (.int .i64 0), Is (.bool false), Is (.bool false), Is (.int .i64 (i : Int)), Is (.bool false), Is (.bool false), Is (undef), Is (undef), Is (undef), Is (undef), Is (undef), Is (undef), Is (undef), Is (undef), Is (undef), Is (undef), Is (.bool false), Is (.bool false)] (by kernel_rfl) (by kernel_rfl) (by kernel_rfl) rfl rfl ⟨Is.stable _, Is.stable _, Is.stable _, Is.stable _, Is.stable _, Is.stable _, Is.stable _, Is.stable _, Is.stable _, Is.stable _, Is.stable _, Is.stable _, Is.stable _, Is.stable _, Is.stable _, Is.stable _, Is.stable _, Is.stable _, Is.stable _, Is.stable _, trivial⟩ ⟨?s0x1, ?s1x1, ?s2x1, ?s3x1, ?s4x1, ?s5x1, ?s6x1, ?s7x1, ?s8x1, ?s9x1, ?s10x1, ?s11x1, ?s12x1, ?s13x1, ?s14x1, ?s15x1, ?s16x1, ?s17x1, ?s18x1, ?s19x1, trivial⟩ ?finx1
            case' s0x1 | s1x1 | s2x1 | s3x1 | s4x1 | s5x1 | s6x1 | s7x1 | s8x1 | s9x1 | s10x1 | s11x1 | s12x1 | s13x1 | s14x1 | s15x1 | s16x1 | s17x1 | s18x1 | s19x1 =>
              intro ρ wr hρ hg hK
              simp [readsOf, slotsOf, Op.operands, Call.operands, tmpOf, List.filterMap_cons, List.filterMap_nil, KnownAll, knownOf, srcOf, depsOf, dstOf, Region.binds, nth, Is] at hK
              obtain ⟨hc, hf, hgl⟩ := hρ
              try simp only [wantedBy, dstOf, boolOf, nth, List.getD_cons_zero, List.getD_cons_succ, List.getElem?_cons_zero, List.getElem?_cons_succ, Option.bind_some, if_true, hK, BEq.rfl]
              try go_simp
              first | exact rfl | (rw [if_pos (by omega)]; exact is_here rfl) | (rw [dif_pos (by omega)]; exact is_here rfl) | exact congrArg (Value.int _) (IntWalk.i64_in _ ⟨by omega, by omega⟩) | skip
            case s1x1 =>
              have z := HB.out.gr hg
              have z0 := z.cell (i := 0) rfl
              have z1 := z.cell (i := 1) rfl
              have z2 := z.cell (i := 2) rfl
              go_simp
              exact rfl
            case s2x1 => exact any_gr (HC1.out wr)
            case finx1 =>
              intro w1 val hg hH
              simp only [Holds, Is, Nat.zero_add, Nat.reduceAdd] at hH
              obtain ⟨h0, h1, h2, h3, h4, h5, h6, h7, h8, h9, h10, h11, h12, h13, h14, h15, h16, h17, h18, h19, _⟩ := hH
              simp only [List.take_succ_cons, List.take_zero, List.drop_succ_cons, List.drop_zero, putAll, h0, h1, h2, h3, h4, h5, h6, h7, h8, h9, h10, h11, h12, h13, h14, h15, h16, h17, h18, h19, Nat.zero_add, Nat.reduceAdd]
              have HG := Lib.hid (HGb.out.trans hg)
              clear hg
              go_simp
              go_wp2
              go_roundw
              case rel => exact ⟨i + 1, hlt, by go_num, HG.out, HT.out⟩
              case measure => simp [intOf]; omega
        · have hp : i - 1 < l.length := by omega
          obtain ⟨bp, op, ep, p0, p1, p2, p3⟩ := HR.out (i - 1) hp
          cases ep
          have HLs2 := Lib.hid (HLs.out hp)
          have HS2 := Lib.hid (HS.out (by omega))
          generalize l[i - 1] = pc at *
          obtain ⟨pk, ps, pd, pval⟩ := pc
          simp only at p0 p1 p2 p3 HLs2
          have HPc := Lib.hid (And.intro p0 (And.intro p1 p2))
          have hv : vless (⟨pk, ps, pd, pval⟩ : Ci).vr (⟨ck, cs, cd, cval⟩ : Ci).vr = lessF pk ps pd ck cs cd := rfl
          obtain ⟨lb, hlb⟩ : ∃ lb, lb = lessF pk ps pd ck cs cd := ⟨_, rfl⟩
          rw [hv, ← hlb, HOk.out, hok, Bool.true_and] at HS2
          rw [← hlb] at HLs2
          have hd : decide ((0 : Int) < (i : Int)) = true := decide_eq_true (by omega)
          have hd2 : decide (0 < i) = true := decide_eq_true (by omega)
          have hw1 : IntKind.i64.wrap ((i : Int) - 1) = ((i - 1 : Nat) : Int) := by rw [IntKind.wrap_i64]; omega
          obtain ⟨im, him⟩ : ∃ im, im = i - 1 := ⟨_, rfl⟩
          have himl : im < l.length := by omega
          rw [← him] at HPc hw1
          clear hok HCk HLs HZ HS HOk hi0 p0 p1 p2 p3 hv hlb hp him
          cases lb with
          | true =>
            have HT := Lib.hid (show ∀ j, j < i + 1 → ordAt l j = true from fun j hj => by
              by_cases hji : j < i
              · exact HN.out j hji
              · have : j = i := by omega
                rw [this]; exact HS2.out)
            as_aux_lemma =>
              refine region_any_gr _ [Is (.pointer (some ⟨bx, 0, none⟩)), Is (.agg #[.string (str ck), .int .i64 cs, .int .i64 cd]), Is (.int .i64 0), Is (.bool false), Is (.bool false), Is (.int .i64 (i : Int)), Is (.bool true), Is (.bool true), Is (.slice (some ⟨b, off, none⟩) l.length cap), Is (.int .i64 (i : Int)), Is (.int .i64 (im : Int)), Is (.pointer (some ⟨b, off + im * 4, none⟩)), Is (.pointer (some ⟨b, off + im * 4, none⟩)), Is (.agg #[.string (str pk), .int .i64 ps, .int .i64 pd]), Is (.pointer (some ⟨bx, 0, none⟩)), Is (.agg #[.string (str ck), .int .i64 cs, .int .i64 cd]), Is (.bool true), Is (.bool false), Is (.bool false), Is (.bool false)] (by kernel_rfl) (by kernel_rfl) (by kernel_rfl) rfl rfl ⟨Is.stable _, Is.stable _, Is.stable _, Is.stable _, Is.stable _, Is.stable _, Is.stable _, Is.stable _, Is.stable _, Is.stable _, Is.stable _, Is.stable _, Is.stable _, Is.stable _, Is.stable _, Is.stable _, Is.stable _, Is.stable _, Is.stable _, Is.stable _, trivial⟩ ⟨?s0x2, ?s1x2, ?s2x2, ?s3x2, ?s4x2, ?s5x2, ?s6x2, ?s7x2, ?s8x2, ?s9x2, ?s10x2, ?s11x2, ?s12x2, ?s13x2, ?s14x2, ?s15x2, ?s16x2, ?s17x2, ?s18x2, ?s19x2, trivial⟩ ?finx2
              case' s0x2 | s1x2 | s2x2 | s3x2 | s4x2 | s5x2 | s6x2 | s7x2 | s8x2 | s9x2 | s10x2 | s11x2 | s12x2 | s13x2 | s14x2 | s15x2 | s16x2 | s17x2 | s18x2 | s19x2 =>
                intro ρ wr hρ hg hK
                simp [readsOf, slotsOf, Op.operands, Call.operands, tmpOf, List.filterMap_cons, List.filterMap_nil, KnownAll, knownOf, srcOf, depsOf, dstOf, Region.binds, nth, Is] at hK
                obtain ⟨hc, hf, hgl⟩ := hρ
                try simp only [wantedBy, dstOf, boolOf, nth, List.getD_cons_zero, List.getD_cons_succ, List.getElem?_cons_zero, List.getElem?_cons_succ, Option.bind_some, if_true, hK, BEq.rfl]
                try go_simp
                first | exact rfl | (rw [if_pos (by omega)]; exact is_here rfl) | (rw [dif_pos (by omega)]; exact is_here rfl) | exact congrArg (Value.int _) (IntWalk.i64_in _ ⟨by omega, by omega⟩) | skip
              case s1x2 | s15x2 =>
                have z := HB.out.gr hg
                have z0 := z.cell (i := 0) rfl
                have z1 := z.cell (i := 1) rfl
                have z2 := z.cell (i := 2) rfl
                go_simp
                exact rfl
              case s2x2 => exact any_gr (HC1.out wr)
              case s13x2 =>
                obtain ⟨z0, z1, z2⟩ := HPc.out
                have z0 := (HGb.out.trans hg).cell z0
                have z1 := (HGb.out.trans hg).cell z1
                have z2 := (HGb.out.trans hg).cell z2
                go_simp
                exact rfl
              case s16x2 => exact any_gr (HLs2.out wr)
              case finx2 =>
                intro w1 val hg hH
                simp only [Holds, Is, Nat.zero_add, Nat.reduceAdd] at hH
                obtain ⟨h0, h1, h2, h3, h4, h5, h6, h7, h8, h9, h10, h11, h12, h13, h14, h15, h16, h17, h18, h19, _⟩ := hH
                simp only [List.take_succ_cons, List.take_zero, List.drop_succ_cons, List.drop_zero, putAll, h0, h1, h2, h3, h4, h5, h6, h7, h8, h9, h10, h11, h12, h13, h14, h15, h16, h17, h18, h19, Nat.zero_add, Nat.reduceAdd]
                have HG := Lib.hid (HGb.out.trans hg)
                clear hg
                go_simp
                go_wp2
                go_roundw
                case rel => exact ⟨i + 1, hlt, by go_num, HG.out, HT.out⟩
                case measure => simp [intOf]; omega
          | false =>
            have HX := Lib.hid (show r = 2 by rw [HRr.out, ordF_bad hlt HS2.out]; rfl)
            as_aux_lemma =>
              refine region_any_gr _ [Is (.pointer (some ⟨bx, 0, none⟩)), Is (.agg #[.string (str ck), .int .i64 cs, .int .i64 cd]), Is (.int .i64 0), Is (.bool false), Is (.bool false), Is (.int .i64 (i : Int)), Is (.bool true), Is (.bool true), Is (.slice (some ⟨b, off, none⟩) l.length cap), Is (.int .i64 (i : Int)), Is (.int .i64 (im : Int)), Is (.pointer (some ⟨b, off + im * 4, none⟩)), Is (.pointer (some ⟨b, off + im * 4, none⟩)), Is (.agg #[.string (str pk), .int .i64 ps, .int .i64 pd]), Is (.pointer (some ⟨bx, 0, none⟩)), Is (.agg #[.string (str ck), .int .i64 cs, .int .i64 cd]), Is (.bool false), Is (.bool true), Is (.bool true), Is (.bool true)] (by kernel_rfl) (by kernel_rfl) (by kernel_rfl) rfl rfl ⟨Is.stable _, Is.stable _, Is.stable _, Is.stable _, Is.stable _, Is.stable _, Is.stable _, Is.stable _, Is.stable _, Is.stable _, Is.stable _, Is.stable _, Is.stable _, Is.stable _, Is.stable _, Is.stable _, Is.stable _, Is.stable _, Is.stable _, Is.stable _, trivial⟩ ⟨?s0x3, ?s1x3, ?s2x3, ?s3x3, ?s4x3, ?s5x3, ?s6x3, ?s7x3, ?s8x3, ?s9x3, ?s10x3, ?s11x3, ?s12x3, ?s13x3, ?s14x3, ?s15x3, ?s16x3, ?s17x3, ?s18x3, ?s19x3, trivial⟩ ?finx3
              case' s0x3 | s1x3 | s2x3 | s3x3 | s4x3 | s5x3 | s6x3 | s7x3 | s8x3 | s9x3 | s10x3 | s11x3 | s12x3 | s13x3 | s14x3 | s15x3 | s16x3 | s17x3 | s18x3 | s19x3 =>
                intro ρ wr hρ hg hK
                simp [readsOf, slotsOf, Op.operands, Call.operands, tmpOf, List.filterMap_cons, List.filterMap_nil, KnownAll, knownOf, srcOf, depsOf, dstOf, Region.binds, nth, Is] at hK
                obtain ⟨hc, hf, hgl⟩ := hρ
                try simp only [wantedBy, dstOf, boolOf, nth, List.getD_cons_zero, List.getD_cons_succ, List.getElem?_cons_zero, List.getElem?_cons_succ, Option.bind_some, if_true, hK, BEq.rfl]
                try go_simp
                first | exact rfl | (rw [if_pos (by omega)]; exact is_here rfl) | (rw [dif_pos (by omega)]; exact is_here rfl) | exact congrArg (Value.int _) (IntWalk.i64_in _ ⟨by omega, by omega⟩) | skip
              case s1x3 | s15x3 =>
                have z := HB.out.gr hg
                have z0 := z.cell (i := 0) rfl
                have z1 := z.cell (i := 1) rfl
                have z2 := z.cell (i := 2) rfl
                go_simp
                exact rfl
              case s2x3 => exact any_gr (HC1.out wr)
              case s13x3 =>
                obtain ⟨z0, z1, z2⟩ := HPc.out
                have z0 := (HGb.out.trans hg).cell z0
                have z1 := (HGb.out.trans hg).cell z1
                have z2 := (HGb.out.trans hg).cell z2
                go_simp
                exact rfl
              case s16x3 => exact any_gr (HLs2.out wr)
              case finx3 =>
                intro w1 val hg hH
                simp only [Holds, Is, Nat.zero_add, Nat.reduceAdd] at hH
                obtain ⟨h0, h1, h2, h3, h4, h5, h6, h7, h8, h9, h10, h11, h12, h13, h14, h15, h16, h17, h18, h19, _⟩ := hH
                simp only [List.take_succ_cons, List.take_zero, List.drop_succ_cons, List.drop_zero, putAll, h0, h1, h2, h3, h4, h5, h6, h7, h8, h9, h10, h11, h12, h13, h14, h15, h16, h17, h18, h19, Nat.zero_add, Nat.reduceAdd]
                have HG := Lib.hid (HGb.out.trans hg)
                clear hg
                go_simp
                go_wp2
                go_ret
                exact ⟨by rw [HX.out]; rfl, HG.out⟩
    · obtain rfl : i = l.length := by omega
      have HE := Lib.hid (show r = 0 by rw [HRr.out, if_pos (ordF_good HN.out)])
      go_wp2
      go_ret
      exact ⟨by rw [HE.out]; rfl, hg⟩
end Go.Proofs.YtpaogoehgkoaeaaGreatDoor
