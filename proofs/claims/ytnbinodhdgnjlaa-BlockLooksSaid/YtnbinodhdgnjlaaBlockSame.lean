/- Layer 13 (block): Same (the reference's), and BlockIntervals answers true. -/
import Derived.Test.YtnbinodhdgnjlaaBlockPairs
namespace Go.Proofs.Ytnbinodhdgnjlaa
set_option linter.unusedVariables false
set_option linter.unusedSimpArgs false
open Go.RowKit Bk
set_option maxRecDepth 100000 in
set_option maxHeartbeats 1000000 in
theorem Same_same (ad1 ad2 : Option Addr) (n1 n2 c1 c2 : Nat) (l : List Pr) (w : World) (h1 : n1 = l.length) (h2 : n2 = l.length) (hl : l.length ≤ 1000000000) (hr1 : Row w ad1 (pv l)) (hr2 : Row w ad2 (pv l)) :
    Calls Try.prog 13 #[.slice ad1 n1 c1, .slice ad2 n2 c2] w fun e w' => e = .returned (.bool true) ∧ Gr w w' := by
  subst h1
  subst h2
  have HR1 := Lib.hid hr1.pair; have HR2 := Lib.hid hr2.pair
  clear hr1 hr2
  go_enter Try.func13, Try.ntmps13
  go_wp2
  go_loopw [5] (fun v wr => ∃ i : Nat, i ≤ l.length ∧ v = .int .i64 (i : Int) ∧ Gr w wr) (fun v _ => l.length - (intOf v).toNat)
  case atStart => exact ⟨0, Nat.zero_le _, rfl, Gr.refl _⟩
  case round =>
    obtain ⟨i, hi, rfl, hg⟩ := hrel
    by_cases hlt : i < l.length
    · obtain ⟨b, off, rfl, hc1, hc2⟩ := HR1.out i hlt
      obtain ⟨b', off', rfl, hc3, hc4⟩ := HR2.out i hlt
      have q1 := hg.cell hc1
      have q2 := hg.cell hc2
      have q3 := hg.cell hc3
      have q4 := hg.cell hc4
      generalize l[i] = p at *
      go_wp2
      go_quiet (fail)
      go_wp2
      go_roundw
      case rel => exact ⟨i + 1, hlt, by go_num, hg.trans (Gr.drewN _ _)⟩
      case measure => simp [intOf]; omega
    · obtain rfl : i = l.length := by omega
      go_wp2
      go_ret
      exact ⟨rfl, hg⟩
theorem chkF_take {l : List Pr} {a : Int} (m : Nat) (h1 : 1 ≤ a) (h2 : a ≤ 64) (h : chkF l a = 0) : chkF (l.take m) a = 0 := by
  have h0 := h
  unfold chkF at h
  rw [if_neg (by omega)] at h
  split at h
  · cases h
  · rename_i h3
    have h4 : ¬ 10000 < l.length ∧ ¬ l.any longB = true := not_or.1 h3
    split at h
    · rename_i h5
      unfold chkF
      have ha : (l.take m).any longB = false := by
        rw [List.any_eq_false]
        intro x hx hb
        exact h4.2 (List.any_eq_true.2 ⟨x, List.mem_of_mem_take hx, hb⟩)
      have hr : riseB (l.take m) = true := riseB_iff.2 fun i hi => by
        rw [List.length_take] at hi
        rw [getD_take _ _ _ (by omega), getD_take _ _ _ (by omega)]
        exact riseB_iff.1 h5 i (by omega)
      rw [if_neg (by omega), if_neg (by rw [ha, List.length_take]; simp; omega), if_pos hr]
    · cases h
theorem Pairs_at (ad : Option Addr) (n cap : Nat) (b : List UInt8) (w : World) (P : List Pr) (e : Nat) (hn : n = b.length) (hp : pairsF b = (P, e)) (hl : b.length ≤ 1000000000) (hc : b.length ≤ cap) (hm : cap ≤ maxLen) (hb : Bytes w ad b) :
    Calls Try.prog 12 #[.slice ad n cap] w (RetPE w P e) := by
  subst hn
  have := Pairs_any ad cap b w hl hc hm hb
  rw [hp] at this
  exact this
theorem Row.pvTake {w : World} {ad : Option Addr} {l : List Pr} (h : Row w ad (pv l)) (n : Nat) : Row w ad (pv (l.take n)) := fun x u hx => h x u (by
  rw [pv_take, List.getElem?_take] at hx
  split at hx
  · exact hx
  · cases hx)
set_option maxRecDepth 100000 in
set_option maxHeartbeats 4000000 in
theorem BlockIntervals_any (ad : Option Addr) (cap : Nat) (l : List Pr) (x y : Int) (w : World) (hr : Row w ad (pv l)) (hl : l.length ≤ 9223372036854775807) :
    Calls Try.prog 5 #[.slice ad l.length cap, .int .i64 x, .int .i64 y] w fun e w' => e = .returned (.bool true) ∧ Gr w w' := by
  have HRI := Lib.hid (fun w hr => rising_any ad cap l w hr hl)
  have HRW := Lib.hid hr
  clear hr
  have hLl := riseF_len l
  generalize riseF l = L at *
  obtain ⟨j0, e1, hj⟩ := u64_mod x 64 (by decide) (by decide)
  have e1 : IntKind.i64.wrap ((IntKind.u64.wrap x).tmod 64) = (j0 : Int) := e1
  obtain ⟨j1, e3, hj1⟩ := u64_mod y 64 (by decide) (by decide)
  have e3 : IntKind.i64.wrap ((IntKind.u64.wrap y).tmod 64) = (j1 : Int) := e3
  obtain ⟨p, hp⟩ : ∃ p, p = j0 + 1 := ⟨_, rfl⟩
  obtain ⟨q, hq⟩ : ∃ q, q = j1 + 1 := ⟨_, rfl⟩
  have hsame := chkF_same L (q : Int) (p : Int) (by omega) (by omega) (by omega) (by omega)
  obtain ⟨c, hc⟩ : ∃ c, chkF L (p : Int) = c := ⟨_, rfl⟩
  have e2 : (1 : Int) + (j0 : Int) = (p : Int) := by omega
  have e4 : (1 : Int) + (j1 : Int) = (q : Int) := by omega
  have hp1 : 1 ≤ p := by omega
  have hp2 : p ≤ 64 := by omega
  have hq1 : 1 ≤ q := by omega
  have hq2 : q ≤ 64 := by omega
  clear hp hq hj hj1
  have HB1 := Lib.hid (fun w ad cap out hr ho => Build_at ad L.length cap L (p : Int) w c out rfl hr (by omega) hc ho)
  have HB2 := Lib.hid (fun w ad cap out hr ho => Build_at ad L.length cap L (q : Int) w c out rfl hr (by omega) (hsame.trans hc) ho)
  have HE2 := Lib.hid e2; have HE4 := Lib.hid e4
  by_cases h0 : c = 0
  · subst h0
    have hok := chkF_ok hc
    have hpa := pairs_build hp1 hp2 (by omega) hok.1 hc
    have hpb := pairs_build hq1 hq2 (by omega) hok.1 (hsame.trans hc)
    have hza : (buildF p L).length ≤ 6 + 2211 * L.length := Nat.le_trans (build_sz (itv := p) hok.1).1 (szN_le hok.1 _)
    have hzb : (buildF q L).length ≤ 6 + 2211 * L.length := Nat.le_trans (build_sz (itv := q) hok.1).1 (szN_le hok.1 _)
    have HO1 := Lib.hid (show (if (0 : Nat) = 0 then buildF (p : Int).toNat L else []) = buildF p L from rfl)
    have HO2 := Lib.hid (show (if (0 : Nat) = 0 then buildF (q : Int).toNat L else []) = buildF q L from rfl)
    have HPA := Lib.hid hpa; have HPB := Lib.hid hpb
    have HOK := Lib.hid hok.1; have HCC := Lib.hid hc
    have HAD := Lib.hid (show ∃ r, buildF p L = dataN p L (L.length - 1) ++ r by
      obtain ⟨r, hr⟩ := dataN_prefix p L (L.length - 1) (L.length - (L.length - 1))
      rw [show L.length - 1 + (L.length - (L.length - 1)) = L.length by omega] at hr
      exact ⟨r ++ (placeN p L L.length ++ (Varint.bytesN 2 p ++ Varint.bytesN 4 L.length)), by unfold buildF; rw [hr, List.append_assoc]⟩)
    clear hok hpa hpb hc hsame
    generalize buildF p L = ba at *
    generalize buildF q L = bb at *
    by_cases hL0 : L.length = 0
    · have hz : ((L.length : Int) == 0) = true := by rw [beq_iff_eq]; omega
      have HL0 := Lib.hid hL0; clear hL0
      go_enter Try.func5, Try.ntmps5
      go_wp2_with (first
        | (go_at_call 9; refine (blocked_any _).mono ?_; rintro e w1 ⟨rfl, g1⟩; have T1 : RowKit.Hid True := trivial)
        | (go_at_call 10; refine (HRI.out _ (HRW.out.gr g1)).mono ?_; rintro e w2 ⟨adl, cpl, rfl, ol, g2⟩; have hcpl := ol.2.1)
        | (go_at_call 11; clear T1; (refine (HB1.out _ _ _ _ ol.row HO1.out).mono ?_); rintro e w3 ⟨ad3, cp3, rfl, o3, g3⟩; have ol3 := ol.gr g3; have T2 : RowKit.Hid True := trivial)
        | (go_at_call 11; clear T2; (refine (HB2.out _ _ _ _ ol3.row HO2.out).mono ?_); rintro e w4 ⟨ad4, cp4, rfl, o4, g4⟩; have ol4 := ol3.gr g4; have o34 := o3.gr g4; have hc3 := o34.2.1; have hm3 := o34.2.2.1; have hc4 := o4.2.1; have hm4 := o4.2.2.1; have T3 : RowKit.Hid True := trivial)
        | (go_at_call 12; clear T3; (refine (Pairs_at _ _ _ ba _ L 0 rfl HPA.out (by omega) hc3 hm3 o34.bytes).mono ?_); rintro e w5 ⟨ad5, cp5, rfl, o5, g5⟩; have o45 := o4.gr g5; have T4 : RowKit.Hid True := trivial)
        | (go_at_call 12; clear T4; (refine (Pairs_at _ _ _ bb _ L 0 rfl HPB.out (by omega) hc4 hm4 o45.bytes).mono ?_); rintro e w6 ⟨ad6, cp6, rfl, o6, g6⟩; have o56 := o5.gr g6)
        | (go_at_call 13; refine (Same_same _ _ _ _ _ _ L _ rfl rfl (by omega) o56.row o6.row).mono ?_; rintro e w7 ⟨rfl, g7⟩; have o57 := o56.gr g7; have o67 := o6.gr g7)
        | (go_at_call 13; refine (Same_same _ _ _ _ _ _ L _ rfl rfl (by omega) o57.row o67.row).mono ?_; rintro e w8 ⟨rfl, g8⟩)
        | fail)
      go_ret
      exact ⟨rfl, ((((((g1.trans g2).trans g3).trans g4).trans g5).trans g6).trans g7).trans g8⟩
    · have hz : ((L.length : Int) == 0) = false := by rw [beq_eq_false_iff_ne]; omega
      obtain ⟨m, hm9⟩ : ∃ m, L.length = m + 1 := ⟨L.length - 1, by omega⟩
      have hm1 : m + 1 ≤ L.length := by omega
      have hm2 : L.length ≤ m + 1 := by omega
      have e5 : (L.length : Int) - 1 = (m : Int) := by omega
      have hmx : m ≤ 60 := by omega
      have htl : (L.take m).length = m := by simp; omega
      have hcT := chkF_take m (by omega) (by omega) HCC.out
      have HTL := Lib.hid htl
      obtain ⟨K, hK⟩ : ∃ K, (m + p - 1) / p = K := ⟨_, rfl⟩
      have hK2 : K ≤ 124 := by rw [← hK]; exact Nat.le_trans (Nat.div_le_self _ _) (by omega)
      have hk1 : ((m : Int) + (p : Int) - 1) / (p : Int) = (K : Int) := by rw [← hK, Int.natCast_ediv, show ((m + p - 1 : Nat) : Int) = (m : Int) + (p : Int) - 1 by omega]
      obtain ⟨D, hD⟩ : ∃ D, D = dataN p L m := ⟨_, rfl⟩
      have hbT : buildF p (L.take m) = D ++ (placeN p (L.take m) m ++ (Varint.bytesN 2 p ++ Varint.bytesN 4 m)) := by
        unfold buildF; rw [htl, dataN_take p L m m (Nat.le_refl _), hD]
      have hpl := placeN_length p (L.take m) hp1 m
      have hcl : (buildF p (L.take m)).length = D.length + 4 * K + 6 := by
        rw [hbT]; simp only [List.length_append, Varint.bytesN_len, hpl, hK]; omega
      have hDl : D.length ≤ 2206 * m := by rw [hD]; exact dataN_len HOK.out m
      obtain ⟨r, hr⟩ := HAD.out
      rw [show L.length - 1 = m by omega, ← hD] at hr
      have hca : ba.take D.length = D := by rw [hr]; exact List.take_left
      have hcc : (buildF p (L.take m)).take D.length = D := by rw [hbT]; exact List.take_left
      have hal : D.length ≤ ba.length := by rw [hr]; simp
      have HB3 := Lib.hid (fun w ad cap hr => Build_at ad m cap (L.take m) (p : Int) w 0 (buildF p (L.take m)) htl.symm hr (by omega) hcT rfl)
      have HCA := Lib.hid hca; have HCT := Lib.hid hcc
      generalize buildF p (L.take m) = bc at *
      clear hm9 hL0 hbT hpl hr hca hcc hK hD htl hcT
      have HCL := Lib.hid hcl
      have e6 : ((bc.length : Int) - 6) - 4 * (K : Int) = (D.length : Int) := by omega
      go_enter Try.func5, Try.ntmps5
      go_wp2_with (first
        | (go_at_call 9; refine (blocked_any _).mono ?_; rintro e w1 ⟨rfl, g1⟩; have T1 : RowKit.Hid True := trivial)
        | (go_at_call 10; refine (HRI.out _ (HRW.out.gr g1)).mono ?_; rintro e w2 ⟨adl, cpl, rfl, ol, g2⟩; have hcpl := ol.2.1)
        | (go_at_call 11; clear T1; (refine (HB1.out _ _ _ _ ol.row HO1.out).mono ?_); rintro e w3 ⟨ad3, cp3, rfl, o3, g3⟩; have ol3 := ol.gr g3; have T2 : RowKit.Hid True := trivial)
        | (go_at_call 11; clear T2; (refine (HB2.out _ _ _ _ ol3.row HO2.out).mono ?_); rintro e w4 ⟨ad4, cp4, rfl, o4, g4⟩; have ol4 := ol3.gr g4; have o34 := o3.gr g4; have hc3 := o34.2.1; have hm3 := o34.2.2.1; have hc4 := o4.2.1; have hm4 := o4.2.2.1; have T3 : RowKit.Hid True := trivial)
        | (go_at_call 12; clear T3; (refine (Pairs_at _ _ _ ba _ L 0 rfl HPA.out (by omega) hc3 hm3 o34.bytes).mono ?_); rintro e w5 ⟨ad5, cp5, rfl, o5, g5⟩; have o45 := o4.gr g5; have T4 : RowKit.Hid True := trivial)
        | (go_at_call 12; clear T4; (refine (Pairs_at _ _ _ bb _ L 0 rfl HPB.out (by omega) hc4 hm4 o45.bytes).mono ?_); rintro e w6 ⟨ad6, cp6, rfl, o6, g6⟩; have o56 := o5.gr g6)
        | (go_at_call 13; refine (Same_same _ _ _ _ _ _ L _ rfl rfl (by omega) o56.row o6.row).mono ?_; rintro e w7 ⟨rfl, g7⟩; have o57 := o56.gr g7; have o67 := o6.gr g7)
        | (go_at_call 13; refine (Same_same _ _ _ _ _ _ L _ rfl rfl (by omega) o57.row o67.row).mono ?_; rintro e w8 ⟨rfl, g8⟩)
        | (go_at_call 11; (refine (HB3.out _ _ _ ((((ol4.gr g5).gr g6).gr g7).row.pvTake m)).mono ?_); rintro e w8 ⟨ad8, cp8, rfl, o8, g8⟩; have hc8 := o8.2.1; have hm8 := o8.2.2.1; have o38 := (((o34.gr g5).gr g6).gr g7).gr g8)
        | fail)
      have hlD : (ba.take D.length).length = D.length := by simp; omega
      have HLA := Lib.hid hlD; clear hlD
      refine region_any_gr _ [Is (.int .i64 0), Is (.bool true), Is (.bool true), Is (.int .i64 (D.length : Int)), Is (.bool true), Is (.bool true), Is (.bool true), Is (.slice ad8 (D.length + 4 * K + 6) cp8), Is (.int .i64 (D.length : Int)), Is (.slice ad8 D.length cp8), Is (.string (str D)), Is (.slice ad3 ba.length cp3), Is (.int .i64 (D.length : Int)), Is (.slice ad3 D.length cp3), Is (.string (str D)), Is (.bool true), Is (.bool true), Is (.bool true)] (by kernel_rfl) (by kernel_rfl) (by kernel_rfl) rfl rfl ⟨Is.stable _, Is.stable _, Is.stable _, Is.stable _, Is.stable _, Is.stable _, Is.stable _, Is.stable _, Is.stable _, Is.stable _, Is.stable _, Is.stable _, Is.stable _, Is.stable _, Is.stable _, Is.stable _, Is.stable _, Is.stable _, trivial⟩ ⟨?s0, ?s1, ?s2, ?s3, ?s4, ?s5, ?s6, ?s7, ?s8, ?s9, ?s10, ?s11, ?s12, ?s13, ?s14, ?s15, ?s16, ?s17, trivial⟩ ?fin
      case' s0 | s1 | s2 | s3 | s4 | s5 | s6 | s7 | s8 | s9 | s10 | s11 | s12 | s13 | s14 | s15 | s16 | s17 =>
        intro ρ wr hρ hg hK
        simp [readsOf, slotsOf, Op.operands, Call.operands, tmpOf, List.filterMap_cons, List.filterMap_nil, KnownAll, knownOf, srcOf, depsOf, dstOf, Region.binds, nth, Is] at hK
        obtain ⟨hc, hf, hgl⟩ := hρ
        try simp only [wantedBy, dstOf, boolOf, nth, List.getD_cons_zero, List.getD_cons_succ, List.getElem?_cons_zero, List.getElem?_cons_succ, Option.bind_some, if_true, hK, BEq.rfl]
        try go_simp
        first | exact rfl | (rw [if_pos (by omega)]; exact is_here rfl) | (rw [dif_pos (by omega)]; exact is_here rfl) | exact congrArg (Value.int _) (IntWalk.i64_in _ ⟨by omega, by omega⟩) | skip
      case s10 =>
        have hs := run_string (P := Try.prog) Try.underlying26 Try.underlying5 Try.underlying9 (cap := cp8) (l := D) (len := D.length) rfl (by have := (o8.gr hg).bytes.take D.length; rwa [HCT.out] at this)
        go_simp
        exact rfl
      case s14 =>
        have hs := run_string (P := Try.prog) Try.underlying26 Try.underlying5 Try.underlying9 (cap := cp3) (l := D) (len := D.length) rfl (by have := (o38.gr hg).bytes.take D.length; rwa [HCA.out] at this)
        go_simp
        exact rfl
      case fin =>
        intro w1 val hg hH
        simp only [Holds, Is, Nat.zero_add, Nat.reduceAdd] at hH
        obtain ⟨h0, h1, h2, h3, h4, h5, h6, h7, h8, h9, h10, h11, h12, h13, h14, h15, h16, h17, _⟩ := hH
        simp only [List.take_succ_cons, List.take_zero, List.drop_succ_cons, List.drop_zero, putAll, h0, h1, h2, h3, h4, h5, h6, h7, h8, h9, h10, h11, h12, h13, h14, h15, h16, h17, Nat.zero_add, Nat.reduceAdd]
        go_simp
        go_wp2
        go_ret
        exact ⟨rfl, (((((((g1.trans g2).trans g3).trans g4).trans g5).trans g6).trans g7).trans g8).trans hg⟩
  · have hne : ((c : Int) != 0) = true := by rw [bne_iff_ne]; omega
    have HO1 := Lib.hid (show (if c = 0 then buildF (p : Int).toNat L else []) = [] from if_neg h0)
    have HO2 := Lib.hid (show (if c = 0 then buildF (q : Int).toNat L else []) = [] from if_neg h0)
    go_enter Try.func5, Try.ntmps5
    go_wp2_with (first
      | (go_at_call 9; refine (blocked_any _).mono ?_; rintro e w1 ⟨rfl, g1⟩; have T1 : RowKit.Hid True := trivial)
      | (go_at_call 10; refine (HRI.out _ (HRW.out.gr g1)).mono ?_; rintro e w2 ⟨adl, cpl, rfl, ol, g2⟩; have hcpl := ol.2.1)
      | (go_at_call 11; clear T1; (refine (HB1.out _ _ _ _ ol.row HO1.out).mono ?_); rintro e w3 ⟨ad3, cp3, rfl, o3, g3⟩; have ol3 := ol.gr g3; have T2 : RowKit.Hid True := trivial)
      | (go_at_call 11; clear T2; (refine (HB2.out _ _ _ _ ol3.row HO2.out).mono ?_); rintro e w4 ⟨ad4, cp4, rfl, o4, g4⟩; have ol4 := ol3.gr g4; have o34 := o3.gr g4; have hc3 := o34.2.1; have hm3 := o34.2.2.1; have hc4 := o4.2.1; have hm4 := o4.2.2.1; have T3 : RowKit.Hid True := trivial)
      | fail)
    go_ret
    exact ⟨rfl, ((g1.trans g2).trans g3).trans g4⟩
end Go.Proofs.Ytnbinodhdgnjlaa
