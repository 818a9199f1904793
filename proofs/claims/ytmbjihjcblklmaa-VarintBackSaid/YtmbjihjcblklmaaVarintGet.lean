/- Layer 3 (varint): the reference's Get, and texts. -/
import Derived.Test.YtmbjihjcblklmaaVarintFix
namespace Go.Proofs.Ytmbjihjcblklmaa
set_option linter.unusedVariables false
set_option linter.unusedSimpArgs false
open Go.RowKit Varint
set_option maxRecDepth 100000 in
set_option maxHeartbeats 2000000 in
theorem rGet_any (t : ByteArray) (w : World) (hm : t.size ≤ maxLen) :
    Calls Try.prog 17 #[.string t] w fun e w' => e = .returned (.tuple #[.int .u64 (getF t.data.toList).1, .int .i64 (getF t.data.toList).2.1, .int .i64 (getF t.data.toList).2.2]) ∧ w = w' := by
  unfold maxLen at hm
  have HZ := Lib.hid (show t.data.toList.length = t.size by simp)
  generalize hl : t.data.toList = l at *
  have HL := Lib.hid hl; clear hl
  have hat : ∀ k (h : k < t.size), l[k]'(by rw [HZ.out]; exact h) = t[k] := by
    intro k h
    have := HL.out
    subst this
    rfl
  have HA := Lib.hid hat; clear hat
  go_enter Try.func17, Try.ntmps17
  go_wp2
  go_loop [5, 6, 7] (fun i _ _ => ∃ k : Nat, k ≤ t.size ∧ k ≤ 10 ∧ i = .int .i64 k ∧ getF l = getAt l (10 - k) k) (fun i _ _ => t.size - (intOf i).toNat)
  case atStart => exact ⟨0, Nat.zero_le _, by omega, rfl, rfl⟩
  case round =>
    obtain ⟨k, hk, hk10, rfl, hg⟩ := hrel
    have HG := Lib.hid hg; clear hg
    by_cases hin : k < t.size ∧ k < 10
    · obtain ⟨hlt, h10⟩ := hin
      have hll : k < l.length := by rw [HZ.out]; exact hlt
      have hx := byte_hi t[k]
      obtain ⟨f, hf⟩ : ∃ f, 10 - k = f + 1 := ⟨9 - k, by omega⟩
      have HF := Lib.hid hf; clear hf
      have hlx : l[k] = t[k] := HA.out k hlt
      have HX := Lib.hid hlx; clear hlx
      by_cases hxs : t[k].toNat < 128
      · have HE := Lib.hid (show getF l = endAt l k t[k].toNat by rw [HG.out, HF.out, getAt_end hll (by rw [HX.out]; exact hxs), HX.out])
        by_cases hbad : k = 9 ∧ 1 < t[k].toNat ∨ 0 < k ∧ t[k].toNat = 0
        · have HR := Lib.hid (HE.out.trans (endAt_bad hbad))
          by_cases h9 : k = 9
          · have b9 : ((k : Int) == 9) = true := by rw [beq_iff_eq]; omega
            by_cases hx1 : 1 < t[k].toNat
            · have bd : decide ((1 : Int) < t[k].toNat) = true := by simp; omega
              clear h9 hbad
              go_wp2
              go_ret3
              exact ⟨ret3_of HR.out rfl rfl rfl, rfl⟩
            · have bd : decide ((1 : Int) < t[k].toNat) = false := by simp; omega
              have hk0 : 0 < k := by omega
              have b0 : ((t[k].toNat : Int) == 0) = true := by rw [beq_iff_eq]; omega
              clear h9 hbad
              go_wp2
              go_ret3
              exact ⟨ret3_of HR.out rfl rfl rfl, rfl⟩
          · have b9 : ((k : Int) == 9) = false := by rw [beq_eq_false_iff_ne]; omega
            have hk0 : 0 < k := by omega
            have b0 : ((t[k].toNat : Int) == 0) = true := by rw [beq_iff_eq]; omega
            clear hbad
            go_wp2
            go_ret3
            exact ⟨ret3_of HR.out rfl rfl rfl, rfl⟩
        · have HR := Lib.hid (HE.out.trans (endAt_good hbad))
          have HV := Lib.hid (show ∀ j, j ≤ k + 1 → val ((l.take (k + 1)).drop j) < 18446744073709551616 from fun j _ => by
            have h1 := getF_lt l
            rw [HR.out] at h1
            exact Nat.lt_of_le_of_lt (val_drop_le _ j) h1)
          have HD := Lib.hid (show ∀ q, q < k + 1 → ∀ h : q < t.size, val ((l.take (k + 1)).drop q) = t[q].toNat % 128 + 128 * val ((l.take (k + 1)).drop (q + 1)) from fun q hq h => by
            rw [List.drop_eq_getElem_cons (by simp [HZ.out]; omega), List.getElem_take, HA.out q h]; rfl)
          by_cases h9 : k = 9
          · have b9 : ((k : Int) == 9) = true := by rw [beq_iff_eq]; omega
            have bd : decide ((1 : Int) < t[k].toNat) = false := by simp; omega
            have hk0 : 0 < k := by omega
            have b0 : ((t[k].toNat : Int) == 0) = false := by rw [beq_eq_false_iff_ne]; omega
            clear h9 hbad
            go_wp2
            go_loop [6, 7] (fun v i => ∃ j : Nat, j ≤ k + 1 ∧ i = .int .i64 ((j : Int) - 1) ∧ v = .int .u64 (val ((l.take (k + 1)).drop j))) (fun _ i => (intOf i + 1).toNat)
            case atStart => exact ⟨k + 1, Nat.le_refl _, by go_num, by rw [List.drop_of_length_le (by simp; omega)]; rfl⟩
            case round =>
              obtain ⟨j, hj, rfl, rfl⟩ := hrel
              by_cases hj0 : 0 < j
              · obtain ⟨q, rfl⟩ : ∃ q, j = q + 1 := ⟨j - 1, by omega⟩
                have hq : q < t.size := by omega
                have e1 : ((q + 1 : Nat) : Int) - 1 = (q : Int) := by omega
                have hxq := byte_hi t[q]
                have hd := Lib.hid (HD.out q (by omega) hq)
                have hlim := HV.out q (by omega)
                rw [hd.out] at hlim
                generalize hV : val ((l.take (k + 1)).drop (q + 1)) = V at *
                have HV2 := Lib.hid hV; clear hV
                have hx2 : 0 ≤ (t[q].toNat : Int) := Int.natCast_nonneg _
                simp only [e1]
                clear e1
                go_wp2
                go_round
                case rel => exact ⟨q, by omega, rfl, by rw [hd.out]; go_num⟩
                case measure => simp [intOf]
              · obtain rfl : j = 0 := by omega
                go_wp2
                go_ret3
                exact ⟨ret3_of HR.out rfl (by omega) rfl, rfl⟩
          · have b9 : ((k : Int) == 9) = false := by rw [beq_eq_false_iff_ne]; omega
            by_cases hk0 : 0 < k
            · have b0 : ((t[k].toNat : Int) == 0) = false := by rw [beq_eq_false_iff_ne]; omega
              clear h9 hbad
              go_wp2
              go_loop [6, 7] (fun v i => ∃ j : Nat, j ≤ k + 1 ∧ i = .int .i64 ((j : Int) - 1) ∧ v = .int .u64 (val ((l.take (k + 1)).drop j))) (fun _ i => (intOf i + 1).toNat)
              case atStart => exact ⟨k + 1, Nat.le_refl _, by go_num, by rw [List.drop_of_length_le (by simp; omega)]; rfl⟩
              case round =>
                obtain ⟨j, hj, rfl, rfl⟩ := hrel
                by_cases hj0 : 0 < j
                · obtain ⟨q, rfl⟩ : ∃ q, j = q + 1 := ⟨j - 1, by omega⟩
                  have hq : q < t.size := by omega
                  have e1 : ((q + 1 : Nat) : Int) - 1 = (q : Int) := by omega
                  have hxq := byte_hi t[q]
                  have hd := Lib.hid (HD.out q (by omega) hq)
                  have hlim := HV.out q (by omega)
                  rw [hd.out] at hlim
                  generalize hV : val ((l.take (k + 1)).drop (q + 1)) = V at *
                  have HV2 := Lib.hid hV; clear hV
                  have hx2 : 0 ≤ (t[q].toNat : Int) := Int.natCast_nonneg _
                  simp only [e1]
                  clear e1
                  go_wp2
                  go_round
                  case rel => exact ⟨q, by omega, rfl, by rw [hd.out]; go_num⟩
                  case measure => simp [intOf]
                · obtain rfl : j = 0 := by omega
                  go_wp2
                  go_ret3
                  exact ⟨ret3_of HR.out rfl (by omega) rfl, rfl⟩
            · clear h9 hbad
              go_wp2
              go_loop [6, 7] (fun v i => ∃ j : Nat, j ≤ k + 1 ∧ i = .int .i64 ((j : Int) - 1) ∧ v = .int .u64 (val ((l.take (k + 1)).drop j))) (fun _ i => (intOf i + 1).toNat)
              case atStart => exact ⟨k + 1, Nat.le_refl _, by go_num, by rw [List.drop_of_length_le (by simp; omega)]; rfl⟩
              case round =>
                obtain ⟨j, hj, rfl, rfl⟩ := hrel
                by_cases hj0 : 0 < j
                · obtain ⟨q, rfl⟩ : ∃ q, j = q + 1 := ⟨j - 1, by omega⟩
                  have hq : q < t.size := by omega
                  have e1 : ((q + 1 : Nat) : Int) - 1 = (q : Int) := by omega
                  have hxq := byte_hi t[q]
                  have hd := Lib.hid (HD.out q (by omega) hq)
                  have hlim := HV.out q (by omega)
                  rw [hd.out] at hlim
                  generalize hV : val ((l.take (k + 1)).drop (q + 1)) = V at *
                  have HV2 := Lib.hid hV; clear hV
                  have hx2 : 0 ≤ (t[q].toNat : Int) := Int.natCast_nonneg _
                  simp only [e1]
                  clear e1
                  go_wp2
                  go_round
                  case rel => exact ⟨q, by omega, rfl, by rw [hd.out]; go_num⟩
                  case measure => simp [intOf]
                · obtain rfl : j = 0 := by omega
                  go_wp2
                  go_ret3
                  exact ⟨ret3_of HR.out rfl (by omega) rfl, rfl⟩
      · go_wp2
        go_round
        case rel =>
          refine ⟨k + 1, by omega, by omega, by go_num, ?_⟩
          rw [HG.out, HF.out, getAt_on hll (by rw [HX.out]; exact hxs)]
          have := HF.out
          congr 1
          omega
        case measure => simp [intOf]; omega
    · have HR0 := Lib.hid (show getF l = short l by
        rw [HG.out]
        rcases Nat.lt_or_ge k 10 with h | h
        · exact getAt_none (by rw [HZ.out]; omega)
        · have : k = 10 := by omega
          subst this; rfl)
      by_cases hkt : k < t.size
      · have h10 : k = 10 := by omega
        have HR := Lib.hid (show getF l = (0, 0, 2) by rw [HR0.out, short, HZ.out, if_neg (by omega)])
        have hk10' : ¬ k < 10 := by omega
        clear hin h10
        go_wp2
        go_ret3
        exact ⟨ret3_of HR.out rfl rfl rfl, rfl⟩
      · by_cases h10 : t.size < 10
        · have HR := Lib.hid (show getF l = (0, 0, 9) by rw [HR0.out, short, HZ.out, if_pos h10])
          clear hin
          go_wp2
          go_ret3
          exact ⟨ret3_of HR.out rfl rfl rfl, rfl⟩
        · have HR := Lib.hid (show getF l = (0, 0, 2) by rw [HR0.out, short, HZ.out, if_neg h10])
          clear hin
          go_wp2
          go_ret3
          exact ⟨ret3_of HR.out rfl rfl rfl, rfl⟩
end Go.Proofs.Ytmbjihjcblklmaa
