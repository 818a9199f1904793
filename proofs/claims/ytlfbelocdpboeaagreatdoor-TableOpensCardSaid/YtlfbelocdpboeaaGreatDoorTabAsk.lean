/- Layer 14 (table): what a table is asked: Count, Ends, May, rank. -/
import Derived.Test.YtlfbelocdpboeaaGreatDoorTabOpen
import Derived.Test.YtlfbelocdpboeaaGreatDoorBunB3
namespace Go.Proofs.YtlfbelocdpboeaaGreatDoor
set_option linter.unusedVariables false
set_option linter.unusedSimpArgs false
open Go.RowKit Tab
theorem Count_nil (w : World) : Calls Tryz.prog 11 #[.pointer none] w fun e w' => e = .returned (.int .i64 0) ∧ w = w' := by
  go_enter Tryz.func11, Tryz.ntmps11
  go_wp2
  go_ret
  exact ⟨rfl, rfl⟩
theorem Count_any (w : World) (g : Nat) (C : List Ci) (f : List UInt8) (h : TabAt w g C f) : Calls Tryz.prog 11 #[.pointer (some ⟨g, 0, none⟩)] w fun e w' => e = .returned (.int .i64 (C.length : Int)) ∧ w = w' := by
  obtain ⟨adc, cc, adf, cf, hb, _⟩ := h
  have z0 := hb.cell (i := 0) rfl
  clear hb
  go_enter Tryz.func11, Tryz.ntmps11
  go_wp2
  go_ret
  exact ⟨rfl, rfl⟩
theorem tMay_nil (w : World) (key : List UInt8) : Calls Tryz.prog 40 #[.pointer none, .string (str key)] w fun e w' => e = .returned (.bool true) ∧ w = w' := by
  go_enter Tryz.func40, Tryz.ntmps40
  go_wp2
  go_ret
  exact ⟨rfl, rfl⟩
theorem tMay_any (w : World) (g : Nat) (C : List Ci) (f key : List UInt8) (h : TabAt w g C f) (hf : f.length ≤ 500000000) (hk : key.length ≤ 9223372036854775807) : Calls Tryz.prog 40 #[.pointer (some ⟨g, 0, none⟩), .string (str key)] w fun e w' => e = .returned (.bool (mayF f (Bloom.hashF key))) ∧ Gr w w' := by
  obtain ⟨adc, cc, adf, cf, hb, h1, h2, h3, h4, h5, h6⟩ := h
  have z1 := hb.cell (i := 1) rfl
  have HM := Lib.hid (May_any f key adf cf w h4 h5 hf h6 hk)
  clear hb h3 h6
  generalize mayF f (Bloom.hashF key) = r at *
  go_enter Tryz.func40, Tryz.ntmps40
  go_wp2_with (go_at_call 71; go_must (refine HM.out.mono ?_); rintro e w2 ⟨rfl, g2⟩)
  go_ret
  exact ⟨rfl, g2⟩
theorem Ends_any (w : World) (g : Nat) (C : List Ci) (f : List UInt8) (h : TabAt w g C f) (hC : C ≠ []) : Calls Tryz.prog 13 #[.pointer (some ⟨g, 0, none⟩)] w fun e w' => e = .returned (.tuple #[.string (str (C.headD zeroC).key), .string (str (C.getLastD zeroC).key)]) ∧ Gr w w' := by
  obtain ⟨adc, cc, adf, cf, hb, h1, h2, h3, _⟩ := h
  have z0 := hb.cell (i := 0) rfl
  have hn : 0 < C.length := by cases C with | nil => exact absurd rfl hC | cons => simp
  obtain ⟨b, o, rfl, a0, _⟩ := h3.ci 0 hn
  obtain ⟨b2, o2, e2, b0, _⟩ := h3.ci (C.length - 1) (by omega)
  cases e2
  have k1 : C[0].key = (C.headD zeroC).key := by rw [List.headD_eq_head?_getD, List.head?_eq_getElem?, List.getElem?_eq_getElem hn]; rfl
  have k2 : C[C.length - 1].key = (C.getLastD zeroC).key := by rw [List.getLastD_eq_getLast?, List.getLast?_eq_getElem?, List.getElem?_eq_getElem (by omega)]; rfl
  rw [k1] at a0
  rw [k2] at b0
  have hi : (C.length : Int) - 1 = ((C.length - 1 : Nat) : Int) := by omega
  have hlm : C.length ≤ 9223372036854775807 := by unfold maxLen at h2; omega
  obtain ⟨m, hm⟩ : ∃ m, m = C.length - 1 := ⟨_, rfl⟩
  have hml : m < C.length := by omega
  rw [← hm] at hi b0
  rw [Nat.zero_mul, Nat.add_zero] at a0
  clear hb h3 k1 k2 hm
  generalize (C.headD zeroC).key = ka at *
  generalize (C.getLastD zeroC).key = kb at *
  go_enter Tryz.func13, Tryz.ntmps13
  go_wp2
  go_quiet (fail)
  go_wp2
  go_ret2
  exact ⟨rfl, Gr.drewN _ _⟩
end Go.Proofs.YtlfbelocdpboeaaGreatDoor
