/- Layer 14 (table): slices.Reverse at cells, Ahead walked. -/
import Derived.Test.YtpaogoehgkoaeaaGreatDoorQTabFrom
import Derived.BigRegion
import Derived.Deep.LoopGhost
namespace Go.Proofs.YtpaogoehgkoaeaaGreatDoor
set_option linter.unusedVariables false
set_option linter.unusedSimpArgs false
open Go.RowKit Tab
theorem Owns.ci {w : World} {base : Nat} {cap : Nat} {D : List Ci} {g : Nat} (h : Owns w base 56 4 (some ⟨g, 0, none⟩) cap D.length (cv D)) {i : Nat} (hi : i < D.length) :
    (w.cell? ⟨g, i * 4, none⟩ = some (.string (str D[i].key)) ∧ w.cell? ⟨g, i * 4 + 1, none⟩ = some (.int .i64 D[i].seq) ∧ w.cell? ⟨g, i * 4 + 2, none⟩ = some (.int .i64 D[i].kind) ∧ w.cell? ⟨g, i * 4 + 3, none⟩ = some (.string (str D[i].val))) ∧
    (w.frozen? ⟨g, i * 4, none⟩ = false ∧ w.frozen? ⟨g, i * 4 + 1, none⟩ = false ∧ w.frozen? ⟨g, i * 4 + 2, none⟩ = false ∧ w.frozen? ⟨g, i * 4 + 3, none⟩ = false) := by
  obtain ⟨b, off, e, c0, c1, c2, c3⟩ := h.row.ci i hi
  cases e
  rw [Nat.zero_add] at c0 c1 c2 c3
  exact ⟨⟨c0, c1, c2, c3⟩, h.unfrozen rfl (by omega), h.unfrozen rfl (by omega), h.unfrozen rfl (by omega), h.unfrozen rfl (by omega)⟩
end Go.Proofs.YtpaogoehgkoaeaaGreatDoor
