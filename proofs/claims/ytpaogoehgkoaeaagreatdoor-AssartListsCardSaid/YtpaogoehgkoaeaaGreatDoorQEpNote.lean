/- Layer 12 (epoch): a note as a key. -/
import Derived.Test.YtpaogoehgkoaeaaGreatDoorQEpNew
import Derived.Test.YtpaogoehgkoaeaaGreatDoorQBunB4
namespace Go.Proofs.YtpaogoehgkoaeaaGreatDoor
set_option linter.unusedVariables false
set_option linter.unusedSimpArgs false
open Go.RowKit Go.Maps
theorem note_keyed : Keyed Tryz.prog 60 := Keyed.of_law (deep_law_laid (by kernel_rfl) (m := 4) (by decide) (of_decide_eq_true (by kernel_rfl)) (by kernel_rfl) (by kernel_rfl))
/-- a piece's word, of numbers that are none too great -/
def OkHd (y : Hd) : Prop := (0 ≤ y.region ∧ y.region ≤ 1000000000) ∧ (0 ≤ y.gen ∧ y.gen ≤ 1000000000) ∧ (0 ≤ y.off ∧ y.off ≤ 1000000000) ∧ (0 ≤ y.len ∧ y.len ≤ 1000000000)
def noteV (now : Nat) (y : Hd) : List Value := [.int .i64 (now : Int), .int .i64 y.region, .int .i64 y.gen, .int .i64 y.off, .int .i64 y.len]
theorem note_key {now : Nat} {y : Hd} (hn : now ≤ 1000000) (hy : OkHd y) : ∃ kl, keyOf Tryz.prog 60 (.agg (noteV now y).toArray) = some kl := by
  obtain ⟨⟨a1, a2⟩, ⟨b1, b2⟩, ⟨c1, c2⟩, ⟨d1, d2⟩⟩ := hy
  have h1 := wf_i64 a1 (by omega)
  have h2 := wf_i64 b1 (by omega)
  have h3 := wf_i64 c1 (by omega)
  have h4 := wf_i64 d1 (by omega)
  have h0 : (Lit.int .i64 (now : Int)).wf = true := wf_i64 (by omega) (by omega)
  have hc : Tryz.prog.cellsOf 58 = 4 := by kernel_rfl
  have hn5 : Tryz.prog.cellsOf 60 = 5 := by kernel_rfl
  have hi : Tryz.prog.cellsOf 3 = 1 := by kernel_rfl
  have hk : Tryz.prog.keyType 60 = true := by kernel_rfl
  obtain ⟨d, hd⟩ : ∃ d, Tryz.prog.types.size + 1 = d + 3 := ⟨Tryz.prog.types.size - 2, by kernel_rfl⟩
  have hL : Tryz.prog.keyLits (d + 3) 60 (noteV now y) = some [.int .i64 (now : Int), .int .i64 y.region, .int .i64 y.gen, .int .i64 y.off, .int .i64 y.len] := by
    simp [Program.keyLits, Tryz.underlying60, Tryz.underlying58, Tryz.underlying3, noteV, hc, hn5, hi, h0, h1, h2, h3, h4]
    rw [if_pos (by decide)]
    rfl
  have hf : (Value.agg (noteV now y).toArray).formed Tryz.prog 60 = true := by simp [Value.formed, Tryz.underlying60, hn5, noteV]
  refine ⟨.string (keyBytes [.int .i64 (now : Int), .int .i64 y.region, .int .i64 y.gen, .int .i64 y.off, .int .i64 y.len]), ?_⟩
  unfold keyOf
  rw [Tryz.underlying60]
  simp only [hk, hf, Bool.and_self, if_true]
  rw [hd]
  have e1 : (Value.agg (noteV now y).toArray).cells.toList = noteV now y := by simp [Value.cells]
  rw [e1, hL]
  rfl
end Go.Proofs.YtpaogoehgkoaeaaGreatDoor
