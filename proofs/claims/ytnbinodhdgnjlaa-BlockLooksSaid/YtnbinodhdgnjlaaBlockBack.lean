/- Layer 13 (block): BlockBack answers true. -/
import Derived.Test.YtnbinodhdgnjlaaBlockSame
namespace Go.Proofs.Ytnbinodhdgnjlaa.Bk
set_option linter.unusedVariables false
set_option linter.unusedSimpArgs false
open Varint
theorem build_tail (itv : Nat) (l : List Pr) : (buildF itv l).length = (dataN itv l l.length).length + (placeN itv l l.length).length + 6 ∧ (buildF itv l).drop ((buildF itv l).length - 6) = bytesN 2 itv ++ bytesN 4 l.length := by
  have b2 := bytesN_len 2 itv
  have b4 := bytesN_len 4 l.length
  have hlen : (buildF itv l).length = (dataN itv l l.length).length + (placeN itv l l.length).length + 6 := by unfold buildF; simp only [List.length_append, b2, b4]; omega
  refine ⟨hlen, ?_⟩
  rw [hlen, Nat.add_sub_cancel]
  unfold buildF
  rw [← List.append_assoc, ← List.length_append, List.drop_left]
theorem parts_none {b : List UInt8} (h : ∀ h6 : 6 ≤ b.length, le ((b.drop (b.length - 6)).take 2) < 1 ∨ 64 < le ((b.drop (b.length - 6)).take 2)) : pairsF b = ([], 2) := by
  have hp : partsF b = none := by
    unfold partsF
    by_cases h6 : b.length < 6
    · rw [if_pos h6]
    · rw [if_neg h6]
      simp only
      rw [if_pos (by have := h (by omega); omega)]
  unfold pairsF
  rw [hp]
theorem pairs_more {itv : Nat} {l : List Pr} (h2 : itv ≤ 64) : pairsF (buildF itv l ++ [0]) = ([], 2) := by
  apply parts_none
  intro _
  obtain ⟨hl, ht⟩ := build_tail itv l
  have e : (buildF itv l ++ [0]).drop ((buildF itv l ++ [0]).length - 6) = (bytesN 2 itv ++ bytesN 4 l.length).drop 1 ++ [0] := by
    have e9 : (buildF itv l ++ [(0 : UInt8)]).length - 6 = (buildF itv l).length - 6 + 1 := by rw [List.length_append]; simp only [List.length_cons, List.length_nil]; omega
    rw [← ht, List.drop_drop, e9, List.drop_append_of_le_length (show (buildF itv l).length - 6 + 1 ≤ (buildF itv l).length by omega)]
  rw [e]
  simp only [bytesN, List.cons_append, List.nil_append, List.drop_succ_cons, List.drop_zero, List.take_succ_cons, List.take_zero, le, UInt8.toNat_ofNat']
  omega
theorem pairs_less {itv : Nat} {l : List Pr} (h1 : 1 ≤ itv) (h2 : itv ≤ 64) : pairsF ((buildF itv l).take ((buildF itv l).length - 1)) = ([], 2) := by
  apply parts_none
  intro h6
  obtain ⟨hl, ht⟩ := build_tail itv l
  have hn : ((buildF itv l).take ((buildF itv l).length - 1)).length = (buildF itv l).length - 1 := by simp
  rw [hn] at h6
  have h7 : (buildF itv l).length - 7 < (buildF itv l).length := by omega
  have e : ((buildF itv l).take ((buildF itv l).length - 1)).drop (((buildF itv l).take ((buildF itv l).length - 1)).length - 6) = ((buildF itv l)[(buildF itv l).length - 7] :: (bytesN 2 itv ++ bytesN 4 l.length)).take 6 := by
    rw [hn, List.drop_take, show (buildF itv l).length - 1 - 6 = (buildF itv l).length - 7 by omega, show (buildF itv l).length - 1 - ((buildF itv l).length - 7) = 6 by omega, List.drop_eq_getElem_cons h7, show (buildF itv l).length - 7 + 1 = (buildF itv l).length - 6 by omega, ht]
  rw [e]
  generalize (buildF itv l)[(buildF itv l).length - 7] = z
  simp only [bytesN, List.cons_append, List.nil_append, List.take_succ_cons, List.take_zero, le, UInt8.toNat_ofNat']
  omega
end Go.Proofs.Ytnbinodhdgnjlaa.Bk
namespace Go.Proofs.Ytnbinodhdgnjlaa
set_option linter.unusedVariables false
set_option linter.unusedSimpArgs false
open Go.RowKit Bk
set_option maxRecDepth 100000 in
set_option maxHeartbeats 4000000 in
theorem BlockBack_any (ad : Option Addr) (cap : Nat) (l : List Pr) (x : Int) (adb : Option Addr) (capb : Nat) (b : List UInt8) (w : World) (hr : Row w ad (pv l)) (hl : l.length ≤ 9223372036854775807) (hcb : b.length ≤ capb) (hmb : capb ≤ maxLen) (hb : Bytes w adb b) :
    Calls Try.prog 4 #[.slice ad l.length cap, .int .i64 x, .slice adb b.length capb] w fun e w' => e = .returned (.bool true) ∧ Gr w w' := by
  have hmx : maxLen ≤ 9223372036854775807 := by decide
  have HRI := Lib.hid (fun w hr => rising_any ad cap l w hr hl)
  have HRW := Lib.hid hr
  have HBW := Lib.hid hb
  clear hr hb
  have hLl := riseF_len l
  generalize riseF l = L at *
  have T0 : RowKit.Hid True := trivial
  by_cases h20 : 20000 < b.length
  · go_enter Try.func4, Try.ntmps4
    go_wp2_with (first
      | (go_at_call 9; clear T0; refine (blocked_any _).mono ?_; rintro e w1 ⟨rfl, g1⟩)
      | (go_at_call 9; refine (blocked_any _).mono ?_; rintro e w2 ⟨rfl, g2⟩)
      | fail)
    go_ret
    exact ⟨rfl, g1.trans g2⟩
  · obtain ⟨j0, e1, hj⟩ := u64_mod x 64 (by decide) (by decide)
    have e1 : IntKind.i64.wrap ((IntKind.u64.wrap x).tmod 64) = (j0 : Int) := e1
    obtain ⟨p, hp⟩ : ∃ p, p = j0 + 1 := ⟨_, rfl⟩
    obtain ⟨c, hc⟩ : ∃ c, chkF L (p : Int) = c := ⟨_, rfl⟩
    have e2 : (1 : Int) + (j0 : Int) = (p : Int) := by omega
    have hp1 : 1 ≤ p := by omega
    have hp2 : p ≤ 64 := by omega
    clear hp hj
    have HB1 := Lib.hid (fun w ad cap out hr ho => Build_at ad L.length cap L (p : Int) w c out rfl hr (by omega) hc ho)
    have HPB := Lib.hid (fun w P e hp hb => Pairs_at adb b.length capb b w P e rfl hp (by omega) hcb hmb hb)
    by_cases h0 : c = 0
    · subst h0
      have hok := chkF_ok hc
      have hpa := pairs_build hp1 hp2 (by omega) hok.1 hc
      have hza : (buildF p L).length ≤ 6 + 2211 * L.length := Nat.le_trans (build_sz (itv := p) hok.1).1 (szN_le hok.1 _)
      have hz6 : 6 ≤ (buildF p L).length := by have := (build_tail p L).1; omega
      have HPA := Lib.hid hpa
      have HPM := Lib.hid (pairs_more (l := L) hp2)
      have HPL := Lib.hid (pairs_less (l := L) hp1 hp2)
      have HO1 := Lib.hid (show (if (0 : Nat) = 0 then buildF (p : Int).toNat L else []) = buildF p L from rfl)
      clear hok hpa hc
      generalize buildF p L = bx at *
      have htl : (bx.take (bx.length - 1)).length = bx.length - 1 := by simp
      have HTL := Lib.hid htl; clear htl
      have hap : (bx ++ [(0 : UInt8)]).length = bx.length + 1 := by simp
      have HAP := Lib.hid hap; clear hap
      rcases pairs_err b with hpe | hpe
      · obtain ⟨P, hP⟩ : ∃ P, pairsF b = (P, 0) := ⟨(pairsF b).1, by rw [← hpe]⟩
        have HPO := Lib.hid hP
        clear hP hpe
        go_enter Try.func4, Try.ntmps4
        go_wp2_with (first
          | (go_at_call 9; refine (blocked_any _).mono ?_; rintro e w1 ⟨rfl, g1⟩; have T1 : RowKit.Hid True := trivial)
          | (go_at_call 10; refine (HRI.out _ (HRW.out.gr g1)).mono ?_; rintro e w2 ⟨adl, cpl, rfl, ol, g2⟩)
          | (go_at_call 11; clear T1; (refine (HB1.out _ _ _ _ ol.row HO1.out).mono ?_); rintro e w3 ⟨ad3, cp3, rfl, o3, g3⟩; have ol3 := ol.gr g3; have hc3 := o3.2.1; have hm3 := o3.2.2.1; have T2 : RowKit.Hid True := trivial)
          | (go_at_call 12; clear T2; (refine (Pairs_at _ _ _ bx _ L 0 rfl HPA.out (by omega) hc3 hm3 o3.bytes).mono ?_); rintro e w5 ⟨ad5, cp5, rfl, o5, g5⟩; have T3 : RowKit.Hid True := trivial)
          | (go_at_call 12; clear T3; (refine (Pairs_at _ _ _ (bx.take (bx.length - 1)) _ [] 2 HTL.out.symm HPL.out (by rw [HTL.out]; omega) (by rw [HTL.out]; omega) hm3 ((o3.gr g5).bytes.take _)).mono ?_); rintro e w6 ⟨ad6, cp6, rfl, o6, g6⟩; have T4 : RowKit.Hid True := trivial)
          | (at_builtin; clear T4; refine wp_append elemB rfl _ _ rfl rfl (Owns.void w6 w6.heap.size 5 1 (Nat.le_refl _)) rfl (Src.bytes (((o3.gr g5).gr g6).gr (Gr.alloc _ _)).bytes rfl Try.underlying26) (by unfold maxLen; omega) (by omega) (by simp) ?_; intro ad7 c7 w7 o7 k7 f7; have G7 := (Gr.alloc w6 (.cells #[] 5)).of_far k7 (Nat.le_refl _); rw [List.nil_append, Nat.zero_add] at o7; have T5 : RowKit.Hid True := trivial)
          | (at_builtin; clear T5; refine wp_append elemB rfl _ _ rfl rfl (o7.gr (Gr.alloc _ _)) rfl (Src.one _ _ (0 : UInt8) rfl Try.underlying26) (by unfold maxLen; omega) (by omega) (by have := G7.size; simp; omega) ?_; intro ad8 c8 w8 o8 k8 f8; have G8 := (G7.trans (Gr.alloc _ _)).grown k8 (row_from o7); rw [← bv_append] at o8; have hc8 := o8.2.1; have hm8 := o8.2.2.1; have T6 : RowKit.Hid True := trivial)
          | (go_at_call 12; clear T6; (refine (Pairs_at _ _ _ (bx ++ [0]) _ [] 2 HAP.out.symm HPM.out (by rw [HAP.out]; omega) (by rw [HAP.out]; omega) hm8 o8.bytes).mono ?_); rintro e w9 ⟨ad9, cp9, rfl, o9, g9⟩; have gN := ((g5.trans g6).trans G8).trans g9)
          | (go_at_call 13; refine (Same_same _ _ _ _ _ _ L _ rfl rfl (by omega) (o5.gr ((g6.trans G8).trans g9)).row (ol3.gr gN).row).mono ?_; rintro e w10 ⟨rfl, g10⟩; have gA := (((g1.trans g2).trans g3).trans gN).trans g10)
          | (go_at_call 12; refine (HPB.out _ P 0 HPO.out (HBW.out.gr gA)).mono ?_; rintro e wP ⟨adP, cpP, rfl, oP, g4⟩; have gP := gA.trans g4)
          | fail)
        obtain ⟨w0, z1, z2, z3, z4⟩ := pairs_some HPO.out
        have hok := chkF_ok z3
        have HZ4 := Lib.hid z4
        have HBI := Lib.hid (fun w' ad n cap (i : Nat) (hn : n = P.length) (h1 : 1 ≤ i) (h2 : i ≤ 64) hr => Build_at ad n cap P (i : Int) w' 0 (buildF i P) hn hr (by omega) ((chkF_same P (i : Int) (w0 : Int) (by omega) (by omega) (by omega) (by omega)).trans z3) rfl)
        have hPn := hok.2.1
        clear hok z3 z4
        go_loopw [17] (fun v wr => ∃ i : Nat, 1 ≤ i ∧ i ≤ w0 ∧ v = .int .i64 (i : Int) ∧ Gr wP wr) (fun v _ => 65 - (intOf v).toNat)
        case atStart => exact ⟨1, Nat.le_refl _, z1, rfl, Gr.refl _⟩
        case round =>
          obtain ⟨i, hi1, hi2, rfl, hgi⟩ := hrel
          have hb9 := HBW.out.gr (gP.trans hgi)
          by_cases heq : buildF i P = b
          · have HQ := Lib.hid heq
            go_wp2_with (first
              | (go_at_call 11; refine (HBI.out _ _ _ _ i rfl hi1 (by omega) (oP.gr hgi).row).mono ?_; rintro e wq ⟨adq, cpq, rfl, oq, gq⟩; have hs1 := run_string (P := Try.prog) Try.underlying26 Try.underlying5 Try.underlying9 (cap := cpq) rfl oq.bytes; have hs2 := run_string (P := Try.prog) Try.underlying26 Try.underlying5 Try.underlying9 (cap := capb) rfl (hb9.gr gq); rw [HQ.out] at hs1 ⊢))
            go_ret
            exact ⟨rfl, (gP.trans hgi).trans gq⟩
          · have hlt : i < w0 := by
              rcases Nat.lt_or_ge i w0 with h | h
              · exact h
              · exact absurd (by rw [show i = w0 by omega]; exact HZ4.out) heq
            have hne : (buildF i P == b) = false := by rw [beq_eq_false_iff_ne]; exact heq
            clear heq
            go_wp2_with (first
              | (go_at_call 11; refine (HBI.out _ _ _ _ i rfl hi1 (by omega) (oP.gr hgi).row).mono ?_; rintro e wq ⟨adq, cpq, rfl, oq, gq⟩; have hs1 := run_string (P := Try.prog) Try.underlying26 Try.underlying5 Try.underlying9 (cap := cpq) rfl oq.bytes; have hs2 := run_string (P := Try.prog) Try.underlying26 Try.underlying5 Try.underlying9 (cap := capb) rfl (hb9.gr gq)))
            go_roundw
            case rel => exact ⟨i + 1, by omega, by omega, by go_num, hgi.trans gq⟩
            case measure => simp [intOf]; omega
      · have HPO := Lib.hid hpe
        clear hpe
        go_enter Try.func4, Try.ntmps4
        go_wp2_with (first
          | (go_at_call 9; refine (blocked_any _).mono ?_; rintro e w1 ⟨rfl, g1⟩; have T1 : RowKit.Hid True := trivial)
          | (go_at_call 10; refine (HRI.out _ (HRW.out.gr g1)).mono ?_; rintro e w2 ⟨adl, cpl, rfl, ol, g2⟩)
          | (go_at_call 11; clear T1; (refine (HB1.out _ _ _ _ ol.row HO1.out).mono ?_); rintro e w3 ⟨ad3, cp3, rfl, o3, g3⟩; have ol3 := ol.gr g3; have hc3 := o3.2.1; have hm3 := o3.2.2.1; have T2 : RowKit.Hid True := trivial)
          | (go_at_call 12; clear T2; (refine (Pairs_at _ _ _ bx _ L 0 rfl HPA.out (by omega) hc3 hm3 o3.bytes).mono ?_); rintro e w5 ⟨ad5, cp5, rfl, o5, g5⟩; have T3 : RowKit.Hid True := trivial)
          | (go_at_call 12; clear T3; (refine (Pairs_at _ _ _ (bx.take (bx.length - 1)) _ [] 2 HTL.out.symm HPL.out (by rw [HTL.out]; omega) (by rw [HTL.out]; omega) hm3 ((o3.gr g5).bytes.take _)).mono ?_); rintro e w6 ⟨ad6, cp6, rfl, o6, g6⟩; have T4 : RowKit.Hid True := trivial)
          | (at_builtin; clear T4; refine wp_append elemB rfl _ _ rfl rfl (Owns.void w6 w6.heap.size 5 1 (Nat.le_refl _)) rfl (Src.bytes (((o3.gr g5).gr g6).gr (Gr.alloc _ _)).bytes rfl Try.underlying26) (by unfold maxLen; omega) (by omega) (by simp) ?_; intro ad7 c7 w7 o7 k7 f7; have G7 := (Gr.alloc w6 (.cells #[] 5)).of_far k7 (Nat.le_refl _); rw [List.nil_append, Nat.zero_add] at o7; have T5 : RowKit.Hid True := trivial)
          | (at_builtin; clear T5; refine wp_append elemB rfl _ _ rfl rfl (o7.gr (Gr.alloc _ _)) rfl (Src.one _ _ (0 : UInt8) rfl Try.underlying26) (by unfold maxLen; omega) (by omega) (by have := G7.size; simp; omega) ?_; intro ad8 c8 w8 o8 k8 f8; have G8 := (G7.trans (Gr.alloc _ _)).grown k8 (row_from o7); rw [← bv_append] at o8; have hc8 := o8.2.1; have hm8 := o8.2.2.1; have T6 : RowKit.Hid True := trivial)
          | (go_at_call 12; clear T6; (refine (Pairs_at _ _ _ (bx ++ [0]) _ [] 2 HAP.out.symm HPM.out (by rw [HAP.out]; omega) (by rw [HAP.out]; omega) hm8 o8.bytes).mono ?_); rintro e w9 ⟨ad9, cp9, rfl, o9, g9⟩; have gN := ((g5.trans g6).trans G8).trans g9)
          | (go_at_call 13; refine (Same_same _ _ _ _ _ _ L _ rfl rfl (by omega) (o5.gr ((g6.trans G8).trans g9)).row (ol3.gr gN).row).mono ?_; rintro e w10 ⟨rfl, g10⟩; have gA := (((g1.trans g2).trans g3).trans gN).trans g10)
          | (go_at_call 12; refine (HPB.out _ [] 2 HPO.out (HBW.out.gr gA)).mono ?_; rintro e wP ⟨adP, cpP, rfl, oP, g4⟩; have gP := gA.trans g4)
          | fail)
        go_ret
        exact ⟨rfl, gP⟩
    · have hne : ((c : Int) == 0) = false := by rw [beq_eq_false_iff_ne]; omega
      have HO1 := Lib.hid (show (if c = 0 then buildF (p : Int).toNat L else []) = [] from if_neg h0)
      clear h0
      rcases pairs_err b with hpe | hpe
      · obtain ⟨P, hP⟩ : ∃ P, pairsF b = (P, 0) := ⟨(pairsF b).1, by rw [← hpe]⟩
        have HPO := Lib.hid hP
        clear hP hpe
        go_enter Try.func4, Try.ntmps4
        go_wp2_with (first
          | (go_at_call 9; refine (blocked_any _).mono ?_; rintro e w1 ⟨rfl, g1⟩; have T1 : RowKit.Hid True := trivial)
          | (go_at_call 10; refine (HRI.out _ (HRW.out.gr g1)).mono ?_; rintro e w2 ⟨adl, cpl, rfl, ol, g2⟩)
          | (go_at_call 11; clear T1; (refine (HB1.out _ _ _ _ ol.row HO1.out).mono ?_); rintro e w3 ⟨ad3, cp3, rfl, o3, g3⟩; have ol3 := ol.gr g3; have hc3 := o3.2.1; have hm3 := o3.2.2.1; have T2 : RowKit.Hid True := trivial)
          | (go_at_call 12; refine (HPB.out _ P 0 HPO.out (HBW.out.gr ((g1.trans g2).trans g3))).mono ?_; rintro e wP ⟨adP, cpP, rfl, oP, g4⟩; have gP := ((g1.trans g2).trans g3).trans g4)
          | fail)
        obtain ⟨w0, z1, z2, z3, z4⟩ := pairs_some HPO.out
        have hok := chkF_ok z3
        have HZ4 := Lib.hid z4
        have HBI := Lib.hid (fun w' ad n cap (i : Nat) (hn : n = P.length) (h1 : 1 ≤ i) (h2 : i ≤ 64) hr => Build_at ad n cap P (i : Int) w' 0 (buildF i P) hn hr (by omega) ((chkF_same P (i : Int) (w0 : Int) (by omega) (by omega) (by omega) (by omega)).trans z3) rfl)
        have hPn := hok.2.1
        clear hok z3 z4
        go_loopw [17] (fun v wr => ∃ i : Nat, 1 ≤ i ∧ i ≤ w0 ∧ v = .int .i64 (i : Int) ∧ Gr wP wr) (fun v _ => 65 - (intOf v).toNat)
        case atStart => exact ⟨1, Nat.le_refl _, z1, rfl, Gr.refl _⟩
        case round =>
          obtain ⟨i, hi1, hi2, rfl, hgi⟩ := hrel
          have hb9 := HBW.out.gr (gP.trans hgi)
          by_cases heq : buildF i P = b
          · have HQ := Lib.hid heq
            go_wp2_with (first
              | (go_at_call 11; refine (HBI.out _ _ _ _ i rfl hi1 (by omega) (oP.gr hgi).row).mono ?_; rintro e wq ⟨adq, cpq, rfl, oq, gq⟩; have hs1 := run_string (P := Try.prog) Try.underlying26 Try.underlying5 Try.underlying9 (cap := cpq) rfl oq.bytes; have hs2 := run_string (P := Try.prog) Try.underlying26 Try.underlying5 Try.underlying9 (cap := capb) rfl (hb9.gr gq); rw [HQ.out] at hs1 ⊢))
            go_ret
            exact ⟨rfl, (gP.trans hgi).trans gq⟩
          · have hlt : i < w0 := by
              rcases Nat.lt_or_ge i w0 with h | h
              · exact h
              · exact absurd (by rw [show i = w0 by omega]; exact HZ4.out) heq
            have hne : (buildF i P == b) = false := by rw [beq_eq_false_iff_ne]; exact heq
            clear heq
            go_wp2_with (first
              | (go_at_call 11; refine (HBI.out _ _ _ _ i rfl hi1 (by omega) (oP.gr hgi).row).mono ?_; rintro e wq ⟨adq, cpq, rfl, oq, gq⟩; have hs1 := run_string (P := Try.prog) Try.underlying26 Try.underlying5 Try.underlying9 (cap := cpq) rfl oq.bytes; have hs2 := run_string (P := Try.prog) Try.underlying26 Try.underlying5 Try.underlying9 (cap := capb) rfl (hb9.gr gq)))
            go_roundw
            case rel => exact ⟨i + 1, by omega, by omega, by go_num, hgi.trans gq⟩
            case measure => simp [intOf]; omega
      · have HPO := Lib.hid hpe
        clear hpe
        go_enter Try.func4, Try.ntmps4
        go_wp2_with (first
          | (go_at_call 9; refine (blocked_any _).mono ?_; rintro e w1 ⟨rfl, g1⟩; have T1 : RowKit.Hid True := trivial)
          | (go_at_call 10; refine (HRI.out _ (HRW.out.gr g1)).mono ?_; rintro e w2 ⟨adl, cpl, rfl, ol, g2⟩)
          | (go_at_call 11; clear T1; (refine (HB1.out _ _ _ _ ol.row HO1.out).mono ?_); rintro e w3 ⟨ad3, cp3, rfl, o3, g3⟩; have ol3 := ol.gr g3; have hc3 := o3.2.1; have hm3 := o3.2.2.1; have T2 : RowKit.Hid True := trivial)
          | (go_at_call 12; refine (HPB.out _ [] 2 HPO.out (HBW.out.gr ((g1.trans g2).trans g3))).mono ?_; rintro e wP ⟨adP, cpP, rfl, oP, g4⟩; have gP := ((g1.trans g2).trans g3).trans g4)
          | fail)
        go_ret
        exact ⟨rfl, gP⟩
theorem BlockBack_len (ad : Option Addr) (cap : Nat) (l : List Pr) (x : Int) (adb : Option Addr) (lenb capb : Nat) (b : List UInt8) (w : World) (hr : Row w ad (pv l)) (hl : l.length ≤ 9223372036854775807) (hbl : b.length = lenb) (hcb : lenb ≤ capb) (hmb : capb ≤ maxLen) (hb : Bytes w adb b) :
    Calls Try.prog 4 #[.slice ad l.length cap, .int .i64 x, .slice adb lenb capb] w fun e w' => e = .returned (.bool true) ∧ Gr w w' := by
  subst hbl; exact BlockBack_any ad cap l x adb capb b w hr hl hcb hmb hb
end Go.Proofs.Ytnbinodhdgnjlaa
