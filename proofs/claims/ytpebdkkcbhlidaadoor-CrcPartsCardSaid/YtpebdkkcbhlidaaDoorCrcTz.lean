/- Layer 4 (crc): math/bits.TrailingZeros32, walked by the library's own table. -/
import Derived.Test.YtpebdkkcbhlidaaDoorCrcLaws
import Derived.Test.YtpebdkkcbhlidaaDoorCrcJoinM
import Derived.Test.YtpebdkkcbhlidaaDoorBlk
namespace Go.Proofs.YtpebdkkcbhlidaaDoor
set_option linter.unusedVariables false
set_option linter.unusedSimpArgs false
open Go.RowKit Crc
/-- the library's table, as its initialiser lays it -/
def Tab (w : World) : Prop := ∀ j, j < 32 → w.cell? ⟨0, j, none⟩ = some (.int .u8 ((Go.Lib.deBruijn32tab.getD j 0 : Nat) : Int))
theorem Tab.cell {w : World} (h : Tab w) (j : Nat) (hj : j < 32) : w.cell? ⟨0, j, none⟩ = some (.int .u8 ((Go.Lib.deBruijn32tab.getD j 0 : Nat) : Int)) := h j hj
theorem tz_key : ∀ i, i < 32 → ((1#32 <<< i) * 125613361#32) >>> 27 = BitVec.ofNat 32 (2 ^ i * 125613361 % 4294967296 / 134217728) := by decide +kernel
theorem U_zero : U 0#32 = 0 := (U_lit 0 rfl (by decide)).symm
theorem U_ne {r : BitVec 32} (h : r ≠ 0#32) : (U r == 0) = false := by
  rw [← U_zero, U_beq]
  exact beq_eq_false_iff_ne.2 h
theorem k27 : (134217728 : Int) = ((2 ^ 27 : Nat) : Int) := by simp
theorem tz_index (r : BitVec 32) (h : r ≠ 0#32) (i : Nat) (hik : i < 32) (hi : i = Go.Lib.ctz 32 r.toNat) :
    bits BinOp.and IntKind.u32 (U r) (-(U r) % 4294967296) * 125613361 % 4294967296 / 134217728 = ((2 ^ i * 125613361 % 4294967296 / 134217728 : Nat) : Int) := by
  rw [U_neg, U_and, low_bit r h, ← hi, U_mulc _ 125613361 125613361 rfl (by decide), U_shr _ 134217728 27 k27, tz_key i hik]
  exact (U_lit _ rfl (by omega)).symm
theorem tz_at (r : BitVec 32) (h : r ≠ 0#32) (w : World) (hT : Tab w) : ∃ idx i : Nat, idx < 32 ∧ i < 32 ∧ i = Go.Lib.ctz 32 r.toNat ∧ bits BinOp.and IntKind.u32 (U r) (-(U r) % 4294967296) * 125613361 % 4294967296 / 134217728 = (idx : Int) ∧ w.cell? ⟨0, idx, none⟩ = some (.int .u8 (i : Int)) := by
  obtain ⟨i, hi⟩ : ∃ i, i = Go.Lib.ctz 32 r.toNat := ⟨_, rfl⟩
  have hik : i < 32 := by rw [hi]; exact ctz_lt r h
  obtain ⟨hx, htab⟩ := Go.Lib.deBruijn32_at i hik
  have hcell := hT.cell _ hx
  rw [htab] at hcell
  exact ⟨_, i, hx, hik, hi, tz_index r h i hik hi, hcell⟩
theorem tz_any (r : BitVec 32) (w : World) (h : r ≠ 0#32) (hT : Tab w) :
    Calls Tryd.prog 12 #[.int .u32 (U r)] w fun e w' => e = .returned (.int .i64 ((Go.Lib.ctz 32 r.toNat : Nat) : Int)) ∧ w = w' := by
  obtain ⟨idx, i, hx, hik, hi, key, hcell⟩ := tz_at r h w hT
  have h0 := U_ne h
  rw [← hi]
  clear hi hT
  have hlo := U_lo r
  have hhi := U_hi r
  go_enter Tryd.func12, Tryd.ntmps12
  go_wp2_with (simp only [key])
  go_ret
  exact ⟨rfl, rfl⟩
end Go.Proofs.YtpebdkkcbhlidaaDoor
