/- Layer 8 (frame): FrameLays answers true. -/
import Derived.Test.YtmjhffohfppnaaaFrameLayRef
namespace Go.Proofs.Ytmjhffohfppnaaa
set_option linter.unusedVariables false
set_option linter.unusedSimpArgs false
open Go.RowKit Fr
set_option maxRecDepth 100000 in
set_option maxHeartbeats 4000000 in
theorem FrameLays_any (x : Int) (hx1 : -9223372036854775808 ≤ x) (hx2 : x ≤ 9223372036854775807) (ad : Option Addr) (cap : Nat) (l : List UInt8) (w : World) (hc : l.length ≤ cap) (hm : cap ≤ maxLen) (hb : Bytes w ad l) :
    Calls Try.prog 3 #[.int .i64 x, .slice ad l.length cap] w fun e w' => e = .returned (.bool true) ∧ Gr w w' := by
  have hmx : maxLen ≤ 9223372036854775807 := by decide
  have HB := Lib.hid hb
  clear hb
  have hs0 := run_string (P := Try.prog) Try.underlying22 Try.underlying5 Try.underlying9 (cap := cap) rfl HB.out
  by_cases h5 : 5000 < l.length
  · go_enter Try.func3, Try.ntmps3
    go_wp2_with (go_at_call 10; refine (framed_any _).mono ?_; rintro e w1 ⟨rfl, g1⟩)
    go_ret
    exact ⟨rfl, g1⟩
  · by_cases h0 : x < 0
    · have HD := Lib.hid (fun w => rDocFrame_neg x l w hx1 h0)
      have HF := Lib.hid (fun w => Frame_neg x ad l.length cap w hx1 h0)
      have HR := Lib.hid (fun w => Room_neg x w hx1 h0)
      have HRR := Lib.hid (fun w => rRoom_neg x w hx1 h0)
      go_enter Try.func3, Try.ntmps3
      go_wp2_with (first
        | (go_at_call 11; refine (HD.out _).mono ?_; rintro e w1 ⟨rfl, g1⟩)
        | (go_at_call 12; refine (HF.out _).mono ?_; rintro e w2 ⟨ad2, c2, rfl, o2, g2⟩)
        | (go_at_call 10; refine (framed_any _).mono ?_; rintro e w3 ⟨rfl, g3⟩; have hs2 := run_string (P := Try.prog) Try.underlying22 Try.underlying5 Try.underlying9 (cap := c2) (len := 0) rfl (o2.gr g3).bytes)
        | (go_at_call 13; refine (HR.out _).mono ?_; rintro e w4 ⟨rfl, rfl⟩)
        | (go_at_call 14; refine (HRR.out _).mono ?_; rintro e w4 ⟨rfl, rfl⟩))
      go_ret
      exact ⟨rfl, (g1.trans g2).trans g3⟩
    · obtain ⟨a, rfl⟩ : ∃ a : Nat, x = (a : Int) := ⟨x.toNat, by omega⟩
      have HD := Lib.hid (fun w => rDocFrame_any a l w (by omega) (by omega))
      have HF := Lib.hid (fun w hb => Frame_any a ad cap l w (by omega) (by omega) hc hm hb)
      have HR := Lib.hid (fun w => Room_any a w (by omega))
      have HRR := Lib.hid (fun w => rRoom_any a w (by omega))
      generalize frameF a l = out at *
      generalize roomF a = room at *
      go_enter Try.func3, Try.ntmps3
      go_wp2_with (first
        | (go_at_call 11; refine (HD.out _).mono ?_; rintro e w1 ⟨rfl, g1⟩)
        | (go_at_call 12; refine (HF.out _ (HB.out.gr g1)).mono ?_; rintro e w2 ⟨ad2, c2, rfl, o2, g2⟩)
        | (go_at_call 10; refine (framed_any _).mono ?_; rintro e w3 ⟨rfl, g3⟩; have hs2 := run_string (P := Try.prog) Try.underlying22 Try.underlying5 Try.underlying9 (cap := c2) rfl (o2.gr g3).bytes)
        | (go_at_call 13; refine (HR.out _).mono ?_; rintro e w4 ⟨rfl, rfl⟩)
        | (go_at_call 14; refine (HRR.out _).mono ?_; rintro e w4 ⟨rfl, rfl⟩))
      go_ret
      exact ⟨rfl, (g1.trans g2).trans g3⟩
theorem FrameLays_len (x : Int) (hx1 : -9223372036854775808 ≤ x) (hx2 : x ≤ 9223372036854775807) (ad : Option Addr) (len cap : Nat) (l : List UInt8) (w : World) (hl : l.length = len) (hc : len ≤ cap) (hm : cap ≤ maxLen) (hb : Bytes w ad l) :
    Calls Try.prog 3 #[.int .i64 x, .slice ad len cap] w fun e w' => e = .returned (.bool true) ∧ Gr w w' := by
  subst hl; exact FrameLays_any x hx1 hx2 ad cap l w hc hm hb
end Go.Proofs.Ytmjhffohfppnaaa
