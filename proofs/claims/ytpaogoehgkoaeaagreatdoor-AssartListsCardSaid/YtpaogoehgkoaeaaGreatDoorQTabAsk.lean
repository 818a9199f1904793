/- Layer 14 (table): what a table is asked: Count, Ends, May, rank. -/
import Derived.Test.YtpaogoehgkoaeaaGreatDoorQTabOpen
import Derived.Test.YtpaogoehgkoaeaaGreatDoorQBunB3
namespace Go.Proofs.YtpaogoehgkoaeaaGreatDoor
set_option linter.unusedVariables false
set_option linter.unusedSimpArgs false
open Go.RowKit Tab
theorem Count_any (w : World) (g : Nat) (C : List Ci) (f : List UInt8) (h : TabAt w g C f) : Calls Tryz.prog 12 #[.pointer (some ⟨g, 0, none⟩)] w fun e w' => e = .returned (.int .i64 (C.length : Int)) ∧ w = w' := by
  obtain ⟨adc, cc, adf, cf, hb, _⟩ := h
  have z0 := hb.cell (i := 0) rfl
  clear hb
  go_enter Tryz.func12, Tryz.ntmps12
  go_wp2
  go_ret
  exact ⟨rfl, rfl⟩
theorem tMay_any (w : World) (g : Nat) (C : List Ci) (f key : List UInt8) (h : TabAt w g C f) (hf : f.length ≤ 500000000) (hk : key.length ≤ 9223372036854775807) : Calls Tryz.prog 78 #[.pointer (some ⟨g, 0, none⟩), .string (str key)] w fun e w' => e = .returned (.bool (mayF f (Bloom.hashF key))) ∧ Gr w w' := by
  obtain ⟨adc, cc, adf, cf, hb, h1, h2, h3, h4, h5, h6⟩ := h
  have z1 := hb.cell (i := 1) rfl
  have HM := Lib.hid (May_any f key adf cf w h4 h5 hf h6 hk)
  clear hb h3 h6
  generalize mayF f (Bloom.hashF key) = r at *
  go_enter Tryz.func78, Tryz.ntmps78
  go_wp2_with (go_at_call 122; go_must (refine HM.out.mono ?_); rintro e w2 ⟨rfl, g2⟩)
  go_ret
  exact ⟨rfl, g2⟩
end Go.Proofs.YtpaogoehgkoaeaaGreatDoor
