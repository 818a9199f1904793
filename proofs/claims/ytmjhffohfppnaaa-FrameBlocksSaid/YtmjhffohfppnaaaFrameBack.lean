/- Layer 8 (frame): FrameBack answers true. -/
import Derived.Test.YtmjhffohfppnaaaFrameLay
namespace Go.Proofs.Ytmjhffohfppnaaa
set_option linter.unusedVariables false
set_option linter.unusedSimpArgs false
open Go.RowKit Fr
theorem Scan_at (l : List UInt8) (n : Nat) (ad : Option Addr) (cap : Nat) (w : World) (hn : n = l.length) (hl : l.length ≤ 100000000) (hc : l.length ≤ cap) (hm : cap ≤ maxLen) (hb : Bytes w ad l) :
    Calls Try.prog 16 #[.slice ad n cap] w (RetS w (scanF l)) := by
  subst hn; exact Scan_any l ad cap w hl hc hm hb
theorem Texts_same (ad1 ad2 : Option Addr) (n1 n2 c1 c2 : Nat) (l : List (List UInt8)) (w : World) (h1 : n1 = l.length) (h2 : n2 = l.length) (hl : l.length ≤ 9223372036854775807) (hr1 : Row w ad1 (sv l)) (hr2 : Row w ad2 (sv l)) :
    Calls Try.prog 17 #[.slice ad1 n1 c1, .slice ad2 n2 c2] w fun e w' => e = .returned (.bool true) ∧ Gr w w' := by
  subst h1; subst h2
  have := Texts_any ad1 ad2 c1 c2 l l w hl hl hr1 hr2
  simpa using this
set_option maxRecDepth 100000 in
set_option maxHeartbeats 2000000 in
theorem FrameBack_any (ad : Option Addr) (cap : Nat) (recs : List (List UInt8)) (w : World) (hc : recs.length ≤ cap) (hm : cap ≤ maxLen) (hr : Row w ad (sv recs)) (hq : ∀ s ∈ recs, s.length ≤ 9223372036854775807) :
    Calls Try.prog 5 #[.slice ad recs.length cap] w fun e w' => e = .returned (.bool true) ∧ Gr w w' := by
  have HL := Lib.hid (lay_any ad cap recs w hc hm hr hq)
  have hmx : maxLen ≤ 9223372036854775807 := by decide
  clear hr hq
  go_enter Try.func5, Try.ntmps5
  go_wp2_with (first
    | (go_at_call 18; refine HL.out.mono ?_; rintro e w1 ⟨rs, adA, adE, adH, cA, cE, cH, rfl, oA, oE, oH, g1, hn, h30, h20, _⟩; have HSC := Lib.hid (scan_all rs); generalize laysF 0 rs = A at *; have hmin : min (recs.length : Int) (rs.length : Int) = (rs.length : Int) := (by omega))
    | (go_at_call 16; refine (Scan_at A _ _ _ _ rfl (by omega) oA.2.1 oA.2.2.1 oA.bytes).mono ?_; rw [HSC.out]; rintro e w2 ⟨ad2, cap2, rfl, o2, g2⟩)
    | (go_at_call 10; refine (framed_any _).mono ?_; rintro e w3 ⟨rfl, g3⟩)
    | (go_at_call 17; refine (Texts_same _ _ _ _ _ _ rs _ rfl rfl (by omega) (o2.gr g3).row ((oH.gr g2).gr g3).row).mono ?_; rintro e w4 ⟨rfl, g4⟩))
  go_ret
  exact ⟨rfl, ((g1.trans g2).trans g3).trans g4⟩
end Go.Proofs.Ytmjhffohfppnaaa
