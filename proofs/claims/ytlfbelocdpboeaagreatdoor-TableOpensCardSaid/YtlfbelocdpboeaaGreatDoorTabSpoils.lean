/- Layer 14 (table): TableSpoils answers true. -/
import Derived.Test.YtlfbelocdpboeaaGreatDoorTabTold
import Derived.Test.YtlfbelocdpboeaaGreatDoorTabRise
namespace Go.Proofs.YtlfbelocdpboeaaGreatDoor
set_option linter.unusedVariables false
set_option linter.unusedSimpArgs false
open Go.RowKit Tab
theorem u64_mod_at (x : Int) (n : Nat) (h : n ≤ 1000000000) : ∃ c : Nat, IntKind.i64.wrap ((IntKind.u64.wrap x).tmod ((n : Int) + 1)) = (c : Int) ∧ c ≤ n := by
  obtain ⟨c, h1, h2⟩ := u64_mod x (n + 1) (by omega) (by omega)
  exact ⟨c, h1, by omega⟩
theorem Owns.blank (w : World) (B : Nat) (e : TypeId) (hB : B ≤ w.heap.size) : Owns (w.alloc (.cells #[] e)) B e 1 (some ⟨w.heap.size, 0, none⟩) 0 0 [] :=
  Owns.made w B #[] e (0, 0) 1 0 0 [] hB (Nat.zero_le _) (Nat.le_refl _) rfl (by simp) rfl
theorem made_gr (N : Nat) (e : TypeId) (size m : Nat) (xs : List Value) : Stable Gr (Made N e size m xs) := by
  rintro v w1 w2 ⟨ad, cap, rfl, ho⟩ h
  exact ⟨ad, cap, rfl, ho.gr h⟩
theorem chkT_any (l : List Ci) {size bits size' bits' : Int} (h : 1 ≤ size ∧ size ≤ 4096 ∧ 1 ≤ bits ∧ bits ≤ 64) (h' : 1 ≤ size' ∧ size' ≤ 4096 ∧ 1 ≤ bits' ∧ bits' ≤ 64) : chkT l size bits = chkT l size' bits' := by
  have h1 : ¬ (size < 1 ∨ 4096 < size ∨ bits < 1 ∨ 64 < bits) := by omega
  have h2 : ¬ (size' < 1 ∨ 4096 < size' ∨ bits' < 1 ∨ 64 < bits') := by omega
  unfold chkT
  rw [if_neg h1, if_neg h2]
theorem chkT_two {l : List Ci} {size bits : Int} (h : chkT l size bits ≠ 0) : buildT l size bits = ([], chkT l size bits) := by unfold buildT; rw [if_neg h]
/-- bytes of one's own, and an error's number -/
def MadeT (B : Nat) (n : Nat) (b : List UInt8) (e : Nat) : Value → World → Prop := fun v w => ∃ ad cap, v = .tuple #[.slice ad n cap, .int .i64 (e : Int)] ∧ Owns w B 5 1 ad cap n (bv b)
theorem MadeT.stable (B n : Nat) (b : List UInt8) (e : Nat) : Stable Gr (MadeT B n b e) := fun _ _ _ ⟨ad, cap, h, o⟩ k => ⟨ad, cap, h, o.gr k⟩
end Go.Proofs.YtlfbelocdpboeaaGreatDoor
