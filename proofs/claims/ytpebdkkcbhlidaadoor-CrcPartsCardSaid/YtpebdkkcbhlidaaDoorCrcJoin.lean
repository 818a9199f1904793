/- Layer 4 (crc): Join. -/
import Derived.Test.YtpebdkkcbhlidaaDoorCrcTwice
import Derived.Lib.RabinKarpLaws
namespace Go.Proofs.YtpebdkkcbhlidaaDoor
set_option linter.unusedVariables false
set_option linter.unusedSimpArgs false
open Go.RowKit Crc
theorem shl_one (n : Nat) (h : n < 32) : ((2 : Int) ^ n) % (4294967296 : Int) = U (1#32 <<< n) := by
  have h1 := U_shl 1#32 ((2 ^ n : Nat) : Int) n rfl
  rw [show U 1#32 = 1 from (U_lit 1 rfl (by decide)).symm, Int.one_mul, Int.natCast_pow] at h1
  exact h1
theorem iterF_odd (k p : Nat) (a : BitVec 32) : iterF (k * (2 * p + 1)) a = iterF ((k + k) * p) (iterF k a) := by
  rw [← iterF_add]
  congr 1
  rw [Nat.mul_add, Nat.mul_one, Nat.add_comm, ← Nat.mul_assoc, Nat.mul_two]
theorem iterF_even (k p : Nat) (a : BitVec 32) : iterF (k * (2 * p)) a = iterF ((k + k) * p) a := by
  rw [← Nat.mul_assoc, Nat.mul_two]
set_option maxRecDepth 100000 in
set_option maxHeartbeats 2000000 in
theorem join_any (a b : BitVec 32) (n : Nat) (w : World) (hm : n ≤ maxLen) (hT : Tab w) :
    Calls Tryd.prog 5 #[.int .u32 (U a), .int .u32 (U b), .int .i64 (n : Int)] w fun e w' => e = .returned (.int .u32 (U (joinF a b n))) ∧ Gr w w' := by
  have HT := Lib.hid hT
  clear hT
  have hm : n ≤ 9223372036854775807 := by unfold maxLen at hm; omega
  have h0 := U_lo a; have h1 := U_hi a
  have h2 := U_lo b; have h3 := U_hi b
  go_enter Tryd.func5, Tryd.ntmps5
  go_wp2
  go_loopw [8, 11] (fun _ iv wr => ∃ i : Nat, i ≤ 32 ∧ iv = .int .i64 (i : Int) ∧ Blk wr w.heap.size 31 (partM (fun i => stepF (1#32 <<< i)) i) ∧ Gr w wr) (fun _ iv _ => 32 - (intOf iv).toNat)
  case atStart => exact ⟨0, Nat.zero_le _, rfl, by rw [partM_zero]; exact Blk.new _ _ _, Gr.alloc _ _⟩
  case round =>
    obtain ⟨i, hi, rfl, hp, hg⟩ := hrel
    by_cases hlt : i < 32
    · have hx := shl_one i hlt
      have hc0 := U_lo (1#32 <<< i)
      have hc1 := U_hi (1#32 <<< i)
      have HX := Lib.hid hx
      clear hx
      have cN := hp.cell (partM_at _ i hlt)
      have fN := hp.frozen i
      go_wp2_with (go_at_call 8; rw [HX.out]; refine (step_any _ _).mono ?_; rintro e w' ⟨rfl, rfl⟩)
      go_roundw
      case rel =>
        have hs := hp.set_ i (.int .u32 (U (stepF (1#32 <<< i))))
        rw [partM_set (fun i => stepF (1#32 <<< i)) i hlt] at hs
        exact ⟨i + 1, hlt, by go_num, hs, hg.setCell (Nat.le_refl _) _⟩
      case measure => simp [intOf]; omega
    · obtain rfl : i = 32 := by omega
      rw [partM_all (fun i => stepF (1#32 <<< i)) 1 (fun _ _ => rfl)] at hp
      have HW := Lib.hid (fun g k w hT hb => twice_any g k w hT hb)
      have HP := Lib.hid hp; have HG := Lib.hid hg
      clear hp hg
      go_wp2_with (first
        | (go_at_call 9; clear h0; (with_reducible refine (HW.out w.heap.size 1 wr (HT.out.gr HG.out) HP.out).mono ?_); rintro e w1 ⟨g1, rfl, b1, z1, k1⟩; have G1 := HG.out.trans k1)
        | (go_at_call 9; clear h1; (with_reducible refine (HW.out g1 2 w1 (HT.out.gr G1) b1).mono ?_); rintro e w2 ⟨g2, rfl, b2, z2, k2⟩; have G2 := G1.trans k2)
        | (go_at_call 9; clear h2; (with_reducible refine (HW.out g2 4 w2 (HT.out.gr G2) b2).mono ?_); rintro e w3 ⟨g3, rfl, b3, z3, k3⟩; have G3 := G2.trans k3)
        | fail)
      have HB3 := Lib.hid b3; have HG3 := Lib.hid G3
      clear HP HG b1 b2 b3 z1 z2 z3 k1 k2 k3 G1 G2 G3 HW hi hlt
      go_loopw [0, 9, 10] (fun av mv qv wr => ∃ (q k g : Nat) (x : BitVec 32), q ≤ n ∧ av = .int .u32 (U x) ∧ mv = .pointer (some ⟨g, 0, none⟩) ∧ qv = .int .i64 (q : Int) ∧ Blk wr g 31 (mat k) ∧ Gr w wr ∧ iterF (k * q) x = iterF (8 * n) a) (fun _ _ qv _ => (intOf qv).toNat)
      case atStart => exact ⟨n, 8, g3, a, Nat.le_refl _, rfl, rfl, rfl, HB3.out, HG3.out, rfl⟩
      case round =>
        clear HB3 HG3
        obtain ⟨q, k, g, x, hq, rfl, rfl, rfl, hb, hg, hit⟩ := hrel
        have HI := Lib.hid hit
        clear hit
        have hx0 := U_lo x; have hx1 := U_hi x; have hb0 := U_lo b
        have HO := Lib.hid (fun w hT hb => of_any g k x w hT hb)
        have HW := Lib.hid (fun w hT hb => twice_any g k w hT hb)
        rcases Nat.eq_zero_or_pos q with hq0 | hq0
        · have hqz : decide ((q : Int) > 0) = false := by simp; omega
          subst hq0
          have HF := Lib.hid (show bits .xor .u32 (U x) (U b) = U (joinF a b n) by
            have := HI.out
            rw [Nat.mul_zero] at this
            rw [U_xor]; unfold joinF; rw [← this]; rfl)
          go_wp2
          go_ret
          exact ⟨by rw [← HF.out]; rfl, hg⟩
        · obtain ⟨p, hp⟩ : ∃ p, p = q / 2 := ⟨_, rfl⟩
          by_cases hodd : q % 2 = 1
          · have hq2 : q = 2 * p + 1 := by omega
            have HQ := Lib.hid hq2
            have HA := Lib.hid (and_one q (by omega))
            have hand : (bits BinOp.and IntKind.i64 (q : Int) 1 == 1) = true := by rw [HA.out, beq_iff_eq]; omega
            clear hp hq2
            go_wp2_with (first
              | (go_at_call 10; (with_reducible refine (HO.out _ (HT.out.gr hg) hb).mono ?_); rintro e w1 ⟨rfl, k1⟩)
              | (go_at_call 9; (with_reducible refine (HW.out _ (HT.out.gr (hg.trans k1)) (hb.gr k1)).mono ?_); rintro e w2 ⟨g2, rfl, b2, z2, k2⟩)
              | fail)
            go_roundw
            case rel => exact ⟨p, k + k, g2, iterF k x, by have := HQ.out; omega, rfl, rfl, by have := HQ.out; go_num, b2, (hg.trans k1).trans k2, by rw [← iterF_odd, ← HQ.out, HI.out]⟩
            case measure => simp [intOf]; omega
          · have hq2 : q = 2 * p := by omega
            have HQ := Lib.hid hq2
            have HA := Lib.hid (and_one q (by omega))
            have hand : (bits BinOp.and IntKind.i64 (q : Int) 1 == 1) = false := by rw [HA.out, beq_eq_false_iff_ne]; exact fun e => hodd (by omega)
            clear hp hq2
            go_wp2_with (first
              | (go_at_call 9; (with_reducible refine (HW.out _ (HT.out.gr hg) hb).mono ?_); rintro e w2 ⟨g2, rfl, b2, z2, k2⟩)
              | fail)
            go_roundw
            case rel => exact ⟨p, k + k, g2, x, by have := HQ.out; omega, rfl, rfl, by have := HQ.out; go_num, b2, hg.trans k2, by rw [← iterF_even, ← HQ.out, HI.out]⟩
            case measure => simp [intOf]; omega
end Go.Proofs.YtpebdkkcbhlidaaDoor
