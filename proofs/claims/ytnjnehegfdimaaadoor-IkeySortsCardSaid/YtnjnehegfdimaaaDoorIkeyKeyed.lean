/- Layer 5 (ikey): keyed answers true; IkeyParts and IkeyBetween answer true. -/
import Derived.Test.YtnjnehegfdimaaaDoorIkeyEnc
namespace Go.Proofs.YtnjnehegfdimaaaDoor
set_option linter.unusedVariables false
set_option linter.unusedSimpArgs false
open Go.RowKit Ikey Varint
open Go.Op (bytesLess)
set_option maxRecDepth 100000 in
set_option maxHeartbeats 1000000 in
theorem keyed_any (w : World) : Calls Tryd.prog 7 #[] w fun e w' => e = .returned (.bool true) ∧ Gr w w' := by
  have hv : encF [97] 1 1 = [97, 1, 1, 0, 0, 0, 0, 0, 0] := by decide +kernel
  have hp : partF [97, 98, 99, 100] [97, 98, 122] = [97, 98, 100] := by decide +kernel
  have E := Encode_yes [97] 1 1 w (by decide +kernel)
  rw [hv] at E
  have E1 : Calls Tryd.prog 14 #[.agg #[.string ⟨#[97]⟩, .int .i64 1, .int .i64 1]] w (RetBI 5 w [97, 1, 1, 0, 0, 0, 0, 0, 0] 0) := E
  have HE := Lib.hid E1
  have P1 := fun w => Part_any [97, 98, 99, 100] [97, 98, 122] w (by decide)
  rw [hp] at P1
  have P2 : ∀ w, Calls Tryd.prog 16 #[.string ⟨#[97, 98, 99, 100]⟩, .string ⟨#[97, 98, 122]⟩] w fun e w' => e = .returned (.string (str [97, 98, 100])) ∧ Gr w w' := P1
  have HP := Lib.hid P2
  clear E E1 P1 P2 hv hp
  go_enter Tryd.func7, Tryd.ntmps7
  go_wp2_with (first
    | (go_at_call 14; refine HE.out.mono ?_; rintro e w1 ⟨ad, cap, rfl, o1, g1⟩; have hs := run_string (P := Tryd.prog) Tryd.underlying25 Tryd.underlying5 Tryd.underlying9 (cap := cap) (len := 9) rfl o1.bytes)
    | (go_at_call 16; refine (HP.out _).mono ?_; rintro e w2 ⟨rfl, g2⟩))
  go_ret
  exact ⟨rfl, g1.trans g2⟩
end Go.Proofs.YtnjnehegfdimaaaDoor
