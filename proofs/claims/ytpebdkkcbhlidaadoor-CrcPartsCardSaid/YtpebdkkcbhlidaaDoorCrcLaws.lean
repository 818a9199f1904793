/- Layer 4 (crc): what the statements' functions answer. -/
import Derived.Test.YtpebdkkcbhlidaaDoorCrcFns
import Derived.Test.YtpebdkkcbhlidaaDoorMem
import Derived.Lib.SlBytesConst
namespace Go.Proofs.YtpebdkkcbhlidaaDoor
set_option linter.unusedVariables false
set_option linter.unusedSimpArgs false
open Go.RowKit Crc

theorem elemB : Elem Tryd.prog 22 5 (.int .u8 0) 1 1 := ⟨by kernel_rfl, by kernel_rfl, rfl, by decide⟩

theorem sums_any (w : World) : Calls Tryd.prog 6 #[] w fun e w' => e = .returned (.bool true) ∧ Gr w w' := by
  have kc := fun (w : World) (C : Array Value) (n c : Nat) => Lib.run_convert_bytes_const (P := Tryd.prog) w 22 5 C n c Tryd.underlying22 Tryd.underlying5
  have k1 : (U (sumF [49, 50, 51, 52, 53, 54, 55, 56, 57]) == 3808858755) = true := by
    have : sumF [49, 50, 51, 52, 53, 54, 55, 56, 57] = 3808858755#32 := by decide +kernel
    rw [this, ← U_lit 3808858755 rfl (by decide)]; rfl
  have k2 : (U (maskF 0#32) == 2726488792) = true := by
    have : maskF 0#32 = 2726488792#32 := by decide +kernel
    rw [this, ← U_lit 2726488792 rfl (by decide)]; rfl
  have HZ := Lib.hid (show (0 : Int) = U 0#32 from U_lit 0 rfl (by decide))
  go_enter Tryd.func6, Tryd.ntmps6
  go_wp2_with (first | (go_at_call 4; refine (sum_any _ _ _ [49, 50, 51, 52, 53, 54, 55, 56, 57] _ rfl (by decide) (Bytes.alloc _ _ _ _ _ rfl)).mono ?_; rintro e w' ⟨rfl, rfl⟩) | (go_at_call 11; rw [HZ.out]; refine (mask_any _ _).mono ?_; rintro e w' ⟨rfl, rfl⟩))
  go_ret
  exact ⟨rfl, Gr.alloc _ _⟩
end Go.Proofs.YtpebdkkcbhlidaaDoor
