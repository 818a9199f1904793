/- Layer 6 (bloom): BloomSizes answers true. -/
import Derived.Test.YtpkbifaeofcckaaBloomLaw3
import Derived.Test.YtpkbifaeofcckaaBloomCount
namespace Go.Proofs.Ytpkbifaeofcckaa
set_option linter.unusedVariables false
set_option linter.unusedSimpArgs false
open Go.RowKit Bloom
theorem nF_eq (len b : Nat) : ((nF len b : Nat) : Int) = max (((len : Int) * (b : Int) + 7) / 8) 8 := by
  unfold nF
  have h : ((len * b : Nat) : Int) = (len : Int) * (b : Int) := Int.natCast_mul _ _
  omega
set_option maxRecDepth 100000 in
set_option maxHeartbeats 2000000 in
theorem BloomSizes_any (ad : Option Addr) (cap : Nat) (keys : List (List UInt8)) (a : Int) (w : World) (ha1 : -9223372036854775808 ≤ a) (ha2 : a ≤ 9223372036854775807) (hl : keys.length ≤ cap) (hc : cap ≤ maxLen) (hr : Row w ad (sv keys)) (hs : Short keys) :
    Calls Try.prog 6 #[.slice ad keys.length cap, .int .i64 a] w fun e w' => e = .returned (.bool true) ∧ Gr w w' := by
  unfold maxLen at hc
  by_cases hb : (2000 : Int) < keys.length
  · go_enter Try.func6, Try.ntmps6
    go_wp2_with (go_at_call 10; refine (blooms_any _).mono ?_; rintro e w1 ⟨rfl, g1⟩)
    go_ret
    exact ⟨rfl, Gr.trans (by assumption) (by assumption)⟩
  · obtain ⟨q, hq, hq64⟩ := mod_pick a 64 (by omega) (by omega)
    obtain ⟨b, hbq⟩ : ∃ b, b = q + 1 := ⟨_, rfl⟩
    have hb1 : 1 ≤ b := by omega
    have hb2 : b ≤ 64 := by omega
    have hp := nF_le (len := keys.length) (b := b) (by omega) hb2
    have hkf := kF_le b
    have hk8 := k_nat hkf.2
    have hN := nF_eq keys.length b
    have e1 : (b : Int) = 1 + (q : Int) := by omega
    rw [e1] at hN
    have hKc : (kF b : Int) = (1 + (q : Int)) * 69 / 100 ∨ kF b = 1 ∨ kF b = 30 := by unfold kF; omega
    have hF : filterF keys b = rowF (onF keys (8 * nF keys.length b) (kF b)) (nF keys.length b) ++ [UInt8.ofNat (kF b)] := rfl
    have hP := popL_row (onF keys (8 * nF keys.length b) (kF b)) (nF keys.length b)
    have hP1 := cnt_keys (8 * nF keys.length b) (kF b) (8 * nF keys.length b) keys
    have hP2 : 0 < keys.length → 1 ≤ cntB (onF keys (8 * nF keys.length b) (kF b)) (8 * nF keys.length b) := by
      intro h0
      exact cnt_pos (onF_mem (List.getElem_mem h0) (8 * nF keys.length b) (kF b) 0 (by omega)) (Nat.mod_lt _ (by omega))
    rw [← hP] at hP1 hP2
    have hB := fun w1 (g : Gr w w1) X hX => Build_lenX X ad keys.length cap keys b w1 hX rfl (by omega) hb1 hb2 (hr.gr g) hs
    rw [hF] at hB
    have hRl := rowF_len (onF keys (8 * nF keys.length b) (kF b)) (nF keys.length b)
    generalize rowF (onF keys (8 * nF keys.length b) (kF b)) (nF keys.length b) = R at *
    generalize UInt8.ofNat (kF b) = x8 at *
    generalize nF keys.length b = N at *
    generalize kF b = k at *
    subst hk8
    have hP3 : popL R ≤ 2000 * 30 := Nat.le_trans hP1 (Nat.mul_le_mul (by omega) hkf.2)
    have hcount : ((popL R : Nat) : Int) ≤ (keys.length : Int) * (x8.toNat : Int) := by
      have h3 : ((popL R : Nat) : Int) ≤ ((keys.length * x8.toNat : Nat) : Int) := by omega
      rw [Int.natCast_mul] at h3; exact h3
    have hLen : (R ++ [x8]).length = N + 1 := by simp [hRl]
    have hlast : ∀ h2 : N < (R ++ [x8]).length, (R ++ [x8])[N]'h2 = x8 := fun h2 => by simp [← hRl]
    have hat : ∀ i (h1 : i < R.length) (h2 : i < (R ++ [x8]).length), (R ++ [x8])[i]'h2 = R[i] := fun i h1 h2 => List.getElem_append_left h1
    have HB := Lib.hid hB; have HL := Lib.hid hlast; have HAT := Lib.hid hat; have HR := Lib.hid hRl; have HN := Lib.hid hN
    have HBQ := Lib.hid hbq
    have hmul0 : 0 ≤ (keys.length : Int) * (1 + (q : Int)) := Int.mul_nonneg (by omega) (by omega)
    have hmul1 : (keys.length : Int) * (1 + (q : Int)) ≤ 2000 * 64 := Int.mul_le_mul (by omega) (by omega) (by omega) (by omega)
    have hmk0 : 0 ≤ (keys.length : Int) * (x8.toNat : Int) := Int.mul_nonneg (by omega) (by omega)
    have hmk1 : (keys.length : Int) * (x8.toNat : Int) ≤ 2000 * 30 := Int.mul_le_mul (by omega) (by omega) (by omega) (by omega)
    clear hB hlast hat hF hP hN e1 hbq hr hs
    generalize hG : R ++ [x8] = G at *
    have HG := Lib.hid hG; clear hG
    have HLen := Lib.hid hLen
    clear hRl
    go_enter Try.func6, Try.ntmps6
    go_wp2_with (first
      | (go_at_call 10; refine (blooms_any _).mono ?_; rintro e w1 ⟨rfl, g1⟩)
      | (go_at_call 14; refine (HB.out _ g1 _ (by have := HBQ.out; omega)).mono ?_; rintro e w2 ⟨ad1, cap1, rfl, o1, g2⟩; have hx0 := HL.out (by rw [HLen.out]; omega); obtain ⟨gb, rfl, _, hcl⟩ := o1.at (bv_get G N (by rw [HLen.out]; omega)); rw [hx0] at hcl; clear hx0))
    clear hq hmul0 hmul1 hmk0 hmk1
    go_loop [9, 10, 11] (fun v i _ => ∃ j : Nat, j ≤ N ∧ i = .int .i64 (j : Int) ∧ v = .int .i64 ((popL (R.take j) : Nat) : Int)) (fun _ i _ => N - (intOf i).toNat)
    case atStart => exact ⟨0, Nat.zero_le _, rfl, rfl⟩
    case round =>
      obtain ⟨j, hj, rfl, rfl⟩ := hrel
      by_cases hlt : j < N
      · have hjR : j < R.length := by rw [HR.out]; exact hlt
        have hjG : j < G.length := by rw [HLen.out]; omega
        obtain ⟨_, e0, _, hc2⟩ := o1.at (bv_get G j hjG)
        cases e0
        rw [HAT.out j hjR hjG] at hc2
        have hx := byte_hi R[j]
        have HT := Lib.hid (show popL (R.take j) + pop R[j] = popL (R.take (j + 1)) by rw [List.take_succ_eq_append_getElem hjR, popL_snoc])
        have hle : popL (R.take (j + 1)) ≤ popL R := by
          have h2 := popL_append (R.take (j + 1)) (R.drop (j + 1))
          rw [List.take_append_drop] at h2
          omega
        have hle2 : popL (R.take (j + 1)) ≤ 60000 := by omega
        clear hle
        go_wp2
        generalize hT : popL (R.take (j + 1)) = T at *
        have HT2 := Lib.hid hT; clear hT
        go_loop [9, 11] (fun v x => ∃ (c : Nat) (y : UInt8), v = .int .i64 (c : Int) ∧ x = .int .u8 (y.toNat : Int) ∧ c + pop y = T) (fun _ x => (intOf x).toNat)
        case atStart => exact ⟨_, R[j], rfl, rfl, HT.out⟩
        case round =>
          obtain ⟨c, y, rfl, rfl, hsum⟩ := hrel
          have HSUM := Lib.hid hsum
          have hcb : c ≤ 60000 := by omega
          clear hsum
          have hy := byte_hi y
          by_cases hy0 : y.toNat = 0
          · have bz : ((y.toNat : Int) != 0) = false := by rw [hy0]; rfl
            have HC := Lib.hid (show c = T by have := HSUM.out; rw [pop_zero hy0] at this; exact this)
            have HY0 := Lib.hid hy0; clear hy0
            go_wp2
            go_round
            case rel => exact ⟨j + 1, by omega, by go_num, by rw [HT2.out, HC.out]⟩
            case measure => simp [intOf]; omega
          · have bz : ((y.toNat : Int) != 0) = true := by rw [bne_iff_ne]; omega
            have h1 := pop_step hy0
            have h2 : bits .and .u8 (y.toNat : Int) ((y.toNat : Int) - 1) = ((y &&& (y - 1)).toNat : Int) := by
              rw [← b8_and, sub_one hy0]; congr 1; omega
            have H1 := Lib.hid h1; have H2 := Lib.hid h2
            have hy1 : 1 ≤ (y.toNat : Int) := by omega
            clear h1 h2 hy0
            go_wp2
            go_round
            case rel => exact ⟨c + 1, y &&& (y - 1), by go_num, by rw [H2.out], by have := H1.out.1; have := HSUM.out; omega⟩
            case measure => simp only [intOf, H2.out]; have := H1.out.2; omega
      · obtain rfl : j = N := by omega
        have hT : R.take j = R := List.take_of_length_le (by rw [HR.out]; exact Nat.le_refl _)
        rw [hT]
        have b1 : ((j : Int) == max (((keys.length : Int) * (1 + (q : Int)) + 7) / 8) 8) = true := by rw [beq_iff_eq]; exact HN.out
        have hx8 : (1 : Int) ≤ (x8.toNat : Int) := by omega
        have hx9 : (x8.toNat : Int) ≤ 30 := by omega
        have hmul0 : 0 ≤ (keys.length : Int) * (1 + (q : Int)) := Int.mul_nonneg (by omega) (by omega)
        have hmul1 : (keys.length : Int) * (1 + (q : Int)) ≤ 2000 * 64 := Int.mul_le_mul (by omega) (by omega) (by omega) (by omega)
        have hmk0 : 0 ≤ (keys.length : Int) * (x8.toNat : Int) := Int.mul_nonneg (by omega) (by omega)
        have hmk1 : (keys.length : Int) * (x8.toNat : Int) ≤ 2000 * 30 := Int.mul_le_mul (by omega) (by omega) (by omega) (by omega)
        have hK3 : (((x8.toNat : Int) == (1 + (q : Int)) * 69 / 100) = true) ∨ (((x8.toNat : Int) == (1 + (q : Int)) * 69 / 100) = false ∧ ((x8.toNat : Int) == 1) = true) ∨ (((x8.toNat : Int) == (1 + (q : Int)) * 69 / 100) = false ∧ ((x8.toNat : Int) == 1) = false ∧ ((x8.toNat : Int) == 30) = true) := by
          simp only [beq_iff_eq, beq_eq_false_iff_ne]
          omega
        have hz3 : ((keys.length : Int) == 0) = true ∨ (((keys.length : Int) == 0) = false ∧ decide (0 < popL R) = true) := by
          by_cases h0 : 0 < keys.length
          · exact .inr ⟨by rw [beq_eq_false_iff_ne]; omega, by have := hP2 h0; rw [decide_eq_true_iff]; omega⟩
          · exact .inl (by rw [beq_iff_eq]; omega)
        clear hP2 hKc hT hP1 hP3 hj hlt
        rcases hK3 with c1 | ⟨c1, c2⟩ | ⟨c1, c2, c3⟩ <;> rcases hz3 with z1 | ⟨z1, z2⟩
        all_goals
          go_wp2
          go_ret
          exact ⟨rfl, g1.trans g2⟩
end Go.Proofs.Ytpkbifaeofcckaa
