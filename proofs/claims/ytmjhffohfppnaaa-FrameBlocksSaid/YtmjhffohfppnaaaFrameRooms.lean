/- Layer 8 (frame): FrameRooms answers true. -/
import Derived.Test.YtmjhffohfppnaaaFrameFramed
namespace Go.Proofs.Ytmjhffohfppnaaa
set_option linter.unusedVariables false
set_option linter.unusedSimpArgs false
open Go.RowKit Fr
theorem u64_mod (x : Int) (m : Nat) (hm : 0 < m) (h : m ≤ 4611686018427387904) : ∃ a : Nat, IntKind.i64.wrap ((IntKind.u64.wrap x).tmod (m : Int)) = (a : Int) ∧ a < m := by
  have h0 : 0 ≤ IntKind.u64.wrap x := by rw [IntKind.wrap_u64]; omega
  have h1 : (IntKind.u64.wrap x).tmod (m : Int) = IntKind.u64.wrap x % (m : Int) := Int.tmod_eq_emod_of_nonneg h0
  have h2 := Int.emod_nonneg (IntKind.u64.wrap x) (show (m : Int) ≠ 0 by omega)
  have h3 := Int.emod_lt_of_pos (IntKind.u64.wrap x) (show (0 : Int) < m by omega)
  obtain ⟨a, ha⟩ := Int.eq_ofNat_of_zero_le h2
  refine ⟨a, ?_, by omega⟩
  rw [h1, ha, IntKind.wrap_i64]
  omega
set_option maxRecDepth 100000 in
set_option maxHeartbeats 2000000 in
theorem FrameRooms_any (x y : Int) (w : World) :
    Calls Try.prog 8 #[.int .i64 x, .int .i64 y] w fun e w' => e = .returned (.bool true) ∧ Gr w w' := by
  obtain ⟨a, e1', ha⟩ := u64_mod x 100000 (by decide) (by decide)
  obtain ⟨n, e2', hn⟩ := u64_mod y 3000 (by decide) (by decide)
  have e3 : IntKind.i64.wrap ((IntKind.u64.wrap x).tmod 100000) = (a : Int) := e1'
  have e4 : IntKind.i64.wrap ((IntKind.u64.wrap y).tmod 3000) = (n : Int) := e2'
  clear e1' e2'
  obtain ⟨Z, hZ⟩ : ∃ Z : List UInt8, Z = List.replicate n 0 := ⟨_, rfl⟩
  have hZl : Z.length = n := by rw [hZ]; simp
  have hLEN := frameF_length a Z
  rw [hZl] at hLEN
  have HF := Lib.hid (fun w' adz capz m (hn : m = n) (ho : Bytes w' adz Z) hc hm => Frame_at a adz capz Z m w' (by omega) (by omega) (by omega) hc hm ho)
  have HNEG := Lib.hid (fun w => Frame_neg (-1 - (a : Int)) .none 0 0 w (by omega) (by omega))
  have HRM := Lib.hid (fun w => Room_any a w (by omega))
  have hl : leftF a = 128 - a % 128 := rfl
  have hmod := Nat.mod_lt a (show 0 < 128 by decide)
  have HZ := Lib.hid hZ; clear hZ
  have HZL := Lib.hid hZl; clear hZl
  have hroom : roomF a ≤ 121 := by unfold roomF; split <;> omega
  have hpd : (121 < a % 128 ∧ padF a = 128 - a % 128) ∨ (a % 128 ≤ 121 ∧ padF a = 0) := by
    unfold padF
    by_cases h : leftF a < 7
    · rw [if_pos h]; omega
    · rw [if_neg h]; omega
  generalize frameF a Z = f at *
  generalize padF a = pd at *
  generalize roomF a = room at *
  clear hl
  have hq : n ≤ room ∨ (room < n ∧ ((n : Int) - (room : Int) + 120).tdiv 121 = (((n - room + 120) / 121 : Nat) : Int)) := by
    rcases Nat.lt_or_ge room n with h | h
    · refine .inr ⟨h, ?_⟩
      rw [Int.tdiv_eq_ediv_of_nonneg (by omega)]
      omega
    · exact .inl h
  rcases hq with hq | ⟨hq, hq2⟩ <;> rcases hpd with ⟨p1, p2⟩ | ⟨p1, p2⟩
  all_goals
    go_enter Try.func8, Try.ntmps8
    go_wp2_with (first
      | (at_make; go_must (refine wp_make elemB rfl rfl _ _ rfl n n rfl rfl rfl rfl (Nat.le_refl _) (by unfold maxLen; omega) (by omega) ?_); intro w1 o1 g1 s1; rw [bv_replicate, ← HZ.out] at o1)
      | (go_at_call 12; (with_reducible refine (HF.out _ _ _ _ rfl o1.bytes (by rw [HZL.out]; exact Nat.le_refl _) (by unfold maxLen; omega)).mono ?_); rintro e w2 ⟨ad2, cap2, rfl, o2, g2⟩)
      | (go_at_call 12; refine (HNEG.out _).mono ?_; rintro e w3 ⟨ad3, cap3, rfl, o3, g3⟩)
      | (go_at_call 13; refine (HRM.out _).mono ?_; rintro e w4 ⟨rfl, rfl⟩)
      | (go_at_call 10; refine (framed_any _).mono ?_; rintro e w5 ⟨rfl, g5⟩))
    go_ret
    exact ⟨rfl, ((g1.trans g2).trans g3).trans g5⟩
end Go.Proofs.Ytmjhffohfppnaaa
