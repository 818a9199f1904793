/- Layer 13 (block): BlockBytes answers true. -/
import Derived.Test.YtnbinodhdgnjlaaBlockOpen
import Derived.Test.YtnbinodhdgnjlaaBlockDocP
namespace Go.Proofs.Ytnbinodhdgnjlaa
set_option linter.unusedVariables false
set_option linter.unusedSimpArgs false
open Go.RowKit Bk
theorem rDocBuild_int (ad : Option Addr) (n cap : Nat) (l : List Pr) (itv : Int) (w : World) (c : Nat) (out : List UInt8) (hn : n = l.length) (hr : Row w ad (pv l)) (hl : l.length ≤ 10000) (hc : chkF l itv = c) (ho : (if c = 0 then buildF itv.toNat l else []) = out) :
    Calls Try.prog 14 #[.slice ad n cap, .int .i64 itv] w fun e w' => e = .returned (.tuple #[.string (str out), .int .i64 (c : Int)]) ∧ Gr w w' := by
  by_cases h0 : c = 0
  · have hi := chkF_itv (hc.trans h0)
    obtain ⟨k, rfl⟩ : ∃ k : Nat, itv = (k : Int) := ⟨itv.toNat, by omega⟩
    exact rDocBuild_at ad n cap l k w c out hn hr hl hc ho
  · subst hn ho
    rw [if_neg h0]
    subst hc
    exact rDocBuild_bad ad cap l itv w hr (by omega) h0
theorem pairs_parts {b : List UInt8} {P : List Pr} (h : pairsF b = (P, 0)) : ∃ d itv c, partsF b = some (d, itv, c) := by
  unfold pairsF at h
  cases hp : partsF b with
  | none => rw [hp] at h; cases h
  | some X => exact ⟨X.1, X.2.1, X.2.2, rfl⟩
set_option maxRecDepth 100000 in
set_option maxHeartbeats 4000000 in
theorem BlockBytes_any (ad : Option Addr) (cap : Nat) (l : List Pr) (x : Int) (adb : Option Addr) (capb : Nat) (b : List UInt8) (w : World) (hr : Row w ad (pv l)) (hl : l.length ≤ 9223372036854775807) (hcb : b.length ≤ capb) (hmb : capb ≤ maxLen) (hb : Bytes w adb b) :
    Calls Try.prog 6 #[.slice ad l.length cap, .int .i64 x, .slice adb b.length capb] w fun e w' => e = .returned (.bool true) ∧ Gr w w' := by
  have hmx : maxLen ≤ 9223372036854775807 := by decide
  have HRI := Lib.hid (rising_any ad cap l w hr hl)
  have HRW := Lib.hid hr
  have HBW := Lib.hid hb
  clear hr hb
  by_cases h3 : 300 < l.length
  · go_enter Try.func6, Try.ntmps6
    go_wp2_with (first
      | (go_at_call 9; refine (blocked_any _).mono ?_; rintro e w1 ⟨rfl, g1⟩)
      | fail)
    go_ret
    exact ⟨rfl, g1⟩
  · by_cases h20 : 20000 < b.length
    · go_enter Try.func6, Try.ntmps6
      go_wp2_with (first
        | (go_at_call 9; refine (blocked_any _).mono ?_; rintro e w1 ⟨rfl, g1⟩)
        | fail)
      go_ret
      exact ⟨rfl, g1⟩
    · have hLl := riseF_len l
      generalize riseF l = L at *
      obtain ⟨c1, hc1⟩ : ∃ c, chkF l x = c := ⟨_, rfl⟩
      obtain ⟨x1, hx1⟩ : ∃ o, (if c1 = 0 then buildF x.toNat l else []) = o := ⟨_, rfl⟩
      obtain ⟨c2, hc2⟩ : ∃ c, chkF L x = c := ⟨_, rfl⟩
      obtain ⟨x2, hx2⟩ : ∃ o, (if c2 = 0 then buildF x.toNat L else []) = o := ⟨_, rfl⟩
      have HD1 := Lib.hid (fun w hr => rDocBuild_int ad l.length cap l x w c1 x1 rfl hr (by omega) hc1 hx1)
      have HB1 := Lib.hid (fun w hr => Build_at ad l.length cap l x w c1 x1 rfl hr (by omega) hc1 hx1)
      have HD2 := Lib.hid (fun ad cap w hr => rDocBuild_int ad L.length cap L x w c2 x2 rfl hr (by omega) hc2 hx2)
      have HB2 := Lib.hid (fun ad cap w hr => Build_at ad L.length cap L x w c2 x2 rfl hr (by omega) hc2 hx2)
      have HRP := Lib.hid (fun w => rpairs_eq b ▸ rDocPairs_any b w (by omega))
      clear hc1 hx1 hc2 hx2
      have T0 : RowKit.Hid True := trivial
      rcases pairs_err b with hpe | hpe
      · obtain ⟨P, hP⟩ : ∃ P, pairsF b = (P, 0) := ⟨(pairsF b).1, by rw [← hpe]⟩
        obtain ⟨d, itv, c, hp⟩ := pairs_parts hP
        obtain ⟨w0, z1, z2, z3, z4⟩ := pairs_some hP
        have hok := (chkF_ok z3).2.1
        have HP := Lib.hid (fun w hb => Pairs_at adb b.length capb b w P 0 rfl hP (by omega) hcb hmb hb)
        have HO := Lib.hid (fun w hb => Open_ok adb capb b w P d itv c hP hp (by omega) hcb hmb hb)
        rw [hP] at HRP
        clear hP hp hpe z3 z4
        go_enter Try.func6, Try.ntmps6
        go_wp2_with (first
          | (go_at_call 10; refine HRI.out.mono ?_; rintro e w1 ⟨adr, cpr, rfl, or, g1⟩)
          | (go_at_call 14; (with_reducible refine (HD1.out _ (HRW.out.gr g1)).mono ?_); clear HD1; rintro e w2 ⟨rfl, g2⟩)
          | (go_at_call 11; (with_reducible refine (HB1.out _ (HRW.out.gr (g1.trans g2))).mono ?_); clear HB1; rintro e w3 ⟨ad3, cp3, rfl, o3, g3⟩)
          | (go_at_call 14; (with_reducible refine (HD2.out _ _ _ (or.gr (g2.trans g3)).row).mono ?_); rintro e w4 ⟨rfl, g4⟩)
          | (go_at_call 11; (with_reducible refine (HB2.out _ _ _ (or.gr ((g2.trans g3).trans g4)).row).mono ?_); rintro e w5 ⟨ad5, cp5, rfl, o5, g5⟩; have gA := (((g1.trans g2).trans g3).trans g4).trans g5; have hs0 := run_string (P := Try.prog) Try.underlying26 Try.underlying5 Try.underlying9 (cap := capb) rfl (HBW.out.gr gA))
          | (go_at_call 15; refine (HRP.out _).mono ?_; rintro e w6 ⟨ad6, cp6, rfl, o6, g6⟩)
          | (go_at_call 12; refine (HP.out _ (HBW.out.gr (gA.trans g6))).mono ?_; rintro e w7 ⟨ad7, cp7, rfl, o7, g7⟩)
          | (go_at_call 16; refine (HO.out _ (HBW.out.gr ((gA.trans g6).trans g7))).mono ?_; rintro e w8 ⟨g, rfl, _, g8, _⟩)
          | (go_at_call 9; refine (blocked_any _).mono ?_; rintro e w9 ⟨rfl, g9⟩; have gZ := ((g6.trans g7).trans g8).trans g9
             have hs1 := run_string (P := Try.prog) Try.underlying26 Try.underlying5 Try.underlying9 (cap := cp3) rfl (o3.gr ((g4.trans g5).trans gZ)).bytes
             have hs2 := run_string (P := Try.prog) Try.underlying26 Try.underlying5 Try.underlying9 (cap := cp5) rfl (o5.gr gZ).bytes)
          | (go_at_call 13; refine (Same_same _ _ _ _ _ _ P _ rfl rfl (by omega) (o6.gr ((g7.trans g8).trans g9)).row (o7.gr (g8.trans g9)).row).mono ?_; rintro e w10 ⟨rfl, g10⟩)
          | fail)
        go_ret
        exact ⟨rfl, (gA.trans gZ).trans g10⟩
      · have HP := Lib.hid (fun w hb => Pairs_at adb b.length capb b w [] 2 rfl hpe (by omega) hcb hmb hb)
        have HO := Lib.hid (fun w hb => Open_bad adb capb b w hpe (by omega) hcb hmb hb)
        rw [hpe] at HRP
        clear hpe
        go_enter Try.func6, Try.ntmps6
        go_wp2_with (first
          | (go_at_call 10; refine HRI.out.mono ?_; rintro e w1 ⟨adr, cpr, rfl, or, g1⟩)
          | (go_at_call 14; (with_reducible refine (HD1.out _ (HRW.out.gr g1)).mono ?_); clear HD1; rintro e w2 ⟨rfl, g2⟩)
          | (go_at_call 11; (with_reducible refine (HB1.out _ (HRW.out.gr (g1.trans g2))).mono ?_); clear HB1; rintro e w3 ⟨ad3, cp3, rfl, o3, g3⟩)
          | (go_at_call 14; (with_reducible refine (HD2.out _ _ _ (or.gr (g2.trans g3)).row).mono ?_); rintro e w4 ⟨rfl, g4⟩)
          | (go_at_call 11; (with_reducible refine (HB2.out _ _ _ (or.gr ((g2.trans g3).trans g4)).row).mono ?_); rintro e w5 ⟨ad5, cp5, rfl, o5, g5⟩; have gA := (((g1.trans g2).trans g3).trans g4).trans g5; have hs0 := run_string (P := Try.prog) Try.underlying26 Try.underlying5 Try.underlying9 (cap := capb) rfl (HBW.out.gr gA))
          | (go_at_call 15; refine (HRP.out _).mono ?_; rintro e w6 ⟨ad6, cp6, rfl, o6, g6⟩)
          | (go_at_call 12; refine (HP.out _ (HBW.out.gr (gA.trans g6))).mono ?_; rintro e w7 ⟨ad7, cp7, rfl, o7, g7⟩)
          | (go_at_call 16; refine (HO.out _ (HBW.out.gr ((gA.trans g6).trans g7))).mono ?_; rintro e w8 ⟨rfl, g8⟩)
          | (go_at_call 9; refine (blocked_any _).mono ?_; rintro e w9 ⟨rfl, g9⟩; have gZ := ((g6.trans g7).trans g8).trans g9
             have hs1 := run_string (P := Try.prog) Try.underlying26 Try.underlying5 Try.underlying9 (cap := cp3) rfl (o3.gr ((g4.trans g5).trans gZ)).bytes
             have hs2 := run_string (P := Try.prog) Try.underlying26 Try.underlying5 Try.underlying9 (cap := cp5) rfl (o5.gr gZ).bytes)
          | (go_at_call 13; refine (Same_same _ _ _ _ _ _ [] _ rfl rfl (by simp) (o6.gr ((g7.trans g8).trans g9)).row (o7.gr (g8.trans g9)).row).mono ?_; rintro e w10 ⟨rfl, g10⟩)
          | fail)
        go_ret
        exact ⟨rfl, (gA.trans gZ).trans g10⟩
theorem BlockBytes_len (ad : Option Addr) (cap : Nat) (l : List Pr) (x : Int) (adb : Option Addr) (lenb capb : Nat) (b : List UInt8) (w : World) (hr : Row w ad (pv l)) (hl : l.length ≤ 9223372036854775807) (hbl : b.length = lenb) (hcb : lenb ≤ capb) (hmb : capb ≤ maxLen) (hb : Bytes w adb b) :
    Calls Try.prog 6 #[.slice ad l.length cap, .int .i64 x, .slice adb lenb capb] w fun e w' => e = .returned (.bool true) ∧ Gr w w' := by
  subst hbl; exact BlockBytes_any ad cap l x adb capb b w hr hl hcb hmb hb
end Go.Proofs.Ytnbinodhdgnjlaa
