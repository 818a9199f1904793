/- How a struct of a text and two numbers is opened. No program is in sight here. -/
import Derived.Test.YtnjnehegfdimaaaDoorOpen
import Derived.Lib.SmallJoins
namespace Go.Proofs.YtnjnehegfdimaaaDoor
set_option linter.unusedVariables false
set_option linter.unusedSimpArgs false
open Go.ChangeShapes Go.WideShapes Go.ChangeAt Go.RowKit Go.Joins Go.Deep
section
variable {H : Type} {P : Program} {w : World} {enc : TypeId × Value → H}
theorem open_sii {base : Nat} {spare : Nat → Bool} {held : Bool} {r : Reach} {b0 : Nat} {t : TypeId} {f0 f1 f2 : Field} {v : Value} {d : DataW H} {ps : List MemPlace} (hs : P.underlying t = some (.struct #[f0, f1, f2])) (hone : oneCellFields P #[f0, f1, f2] = true) (hC : P.cellsOf t = 3)
    (h0 : P.underlying f0.type = some .string) (h1 : P.underlying f1.type = some (.int .i64)) (h2 : P.underlying f2.type = some (.int .i64))
    (hval : Value.okWide P w r b0 t v) (hd : DataW.Trod enc P w base spare held t v d ps) :
    ∃ (k : List UInt8) (s e : Int), v = .agg #[.string (str k), .int .i64 s, .int .i64 e] ∧ k.length ≤ maxLen ∧ (-9223372036854775808 ≤ s ∧ s ≤ 9223372036854775807) ∧ (-9223372036854775808 ≤ e ∧ e ≤ 9223372036854775807) := by
  obtain ⟨c0, c1, c2, y0, y1, y2, m, rfl, _, _, hy0, hy1, hy2⟩ := open_agg3 hs hone hC hval hd
  obtain ⟨t, e0, _, hl⟩ := DataW.trod_string h0 hy0
  obtain ⟨a, e1, _, w1⟩ := DataW.trod_int h1 hy1
  obtain ⟨b, e2, _, w2⟩ := DataW.trod_int h2 hy2
  simp only [List.cons.injEq, and_true] at e0 e1 e2
  subst e0 e1 e2
  obtain ⟨k, rfl⟩ := to_str t
  exact ⟨k, a, b, rfl, by rw [str_size] at hl; exact hl, bounds_i64 w1, bounds_i64 w2⟩
theorem open_ssii {base : Nat} {spare : Nat → Bool} {held : Bool} {r : Reach} {b0 : Nat} {t : TypeId} {f0 f1 f2 f3 : Field} {v : Value} {d : DataW H} {ps : List MemPlace} (hs : P.underlying t = some (.struct #[f0, f1, f2, f3])) (hone : oneCellFields P #[f0, f1, f2, f3] = true) (hC : P.cellsOf t = 4)
    (h0 : P.underlying f0.type = some .string) (h1 : P.underlying f1.type = some .string) (h2 : P.underlying f2.type = some (.int .i64)) (h3 : P.underlying f3.type = some (.int .i64))
    (hval : Value.okWide P w r b0 t v) (hd : DataW.Trod enc P w base spare held t v d ps) :
    ∃ (k m : List UInt8) (s e : Int), v = .agg #[.string (str k), .string (str m), .int .i64 s, .int .i64 e] ∧ k.length ≤ maxLen ∧ m.length ≤ maxLen ∧ (-9223372036854775808 ≤ s ∧ s ≤ 9223372036854775807) ∧ (-9223372036854775808 ≤ e ∧ e ≤ 9223372036854775807) := by
  obtain ⟨c0, c1, c2, c3, y0, y1, y2, y3, m, rfl, _, _, hy0, hy1, hy2, hy3⟩ := open_agg4 hs hone hC hval hd
  obtain ⟨t0, e0, _, hl0⟩ := DataW.trod_string h0 hy0
  obtain ⟨t1, e1, _, hl1⟩ := DataW.trod_string h1 hy1
  obtain ⟨a, e2, _, w2⟩ := DataW.trod_int h2 hy2
  obtain ⟨b, e3, _, w3⟩ := DataW.trod_int h3 hy3
  simp only [List.cons.injEq, and_true] at e0 e1 e2 e3
  subst e0 e1 e2 e3
  obtain ⟨k, rfl⟩ := to_str t0
  obtain ⟨k1, rfl⟩ := to_str t1
  exact ⟨k, k1, a, b, rfl, by rw [str_size] at hl0; exact hl0, by rw [str_size] at hl1; exact hl1, bounds_i64 w2, bounds_i64 w3⟩
end
end Go.Proofs.YtnjnehegfdimaaaDoor
