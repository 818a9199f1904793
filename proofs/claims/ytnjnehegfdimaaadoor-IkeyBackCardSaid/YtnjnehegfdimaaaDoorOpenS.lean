/- How a struct of a text and two numbers is opened. No program is in sight here. -/
import Derived.Test.YtnjnehegfdimaaaDoorOpen
import Derived.Lib.SmallJoins
namespace Go.Proofs.YtnjnehegfdimaaaDoor
set_option linter.unusedVariables false
set_option linter.unusedSimpArgs false
open Go.ChangeShapes Go.WideShapes Go.ChangeAt Go.RowKit Go.Joins Go.Deep
section
variable {H : Type} {P : Program} {w : World} {enc : TypeId × Value → H}
theorem open_sii {base : Nat} {spare : Nat → Bool} {held : Bool} {r : Reach} {b0 : Nat} {t : TypeId} {f0 f1 f2 : Field} {v : Value} {d : DataW H} {ps : List MemPlace} (hs : P.underlying t = some (.struct #[f0, f1, f2])) (hone : oneCellFields P #[f0, f1, f2] = true) (hC : P.cellsOf t = 3)
    (h0 : P.underlying f0.type = some .string) (h1 : P.underlying f1.type = some (.int .i64)) (h2 : P.underlying f2.type = some (.int .i64))
    (hval : Value.okWide P w r b0 t v) (hd : DataW.Trod enc P w base spare held t v d ps) :
    ∃ (k : List UInt8) (s e : Int), v = .agg #[.string (str k), .int .i64 s, .int .i64 e] ∧ k.length ≤ maxLen ∧ (-9223372036854775808 ≤ s ∧ s ≤ 9223372036854775807) ∧ (-9223372036854775808 ≤ e ∧ e ≤ 9223372036854775807) := by
  obtain ⟨c0, c1, c2, y0, y1, y2, m, rfl, _, _, hy0, hy1, hy2⟩ := open_agg3 hs hone hC hval hd
  obtain ⟨t, e0, _, hl⟩ := DataW.trod_string h0 hy0
  obtain ⟨a, e1, _, w1⟩ := DataW.trod_int h1 hy1
  obtain ⟨b, e2, _, w2⟩ := DataW.trod_int h2 hy2
  simp only [List.cons.injEq, and_true] at e0 e1 e2
  subst e0 e1 e2
  obtain ⟨k, rfl⟩ := to_str t
  exact ⟨k, a, b, rfl, by rw [str_size] at hl; exact hl, bounds_i64 w1, bounds_i64 w2⟩
end
end Go.Proofs.YtnjnehegfdimaaaDoor
