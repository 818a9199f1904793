/- Layer 3 (varint): VarintFolds and VarintOrders answer true. -/
import Derived.Test.YtmbjihjcblklmaaVarintLaws
namespace Go.Proofs.Ytmbjihjcblklmaa
set_option linter.unusedVariables false
set_option linter.unusedSimpArgs false
open Go.RowKit Varint
theorem Put_at (X : Int) (n : Nat) (w : World) (hX : X = (n : Int)) (hn : n < 18446744073709551616) : Calls Try.prog 10 #[.int .u64 X] w (RetB 5 w (putF n)) := by
  subst hX; exact Put_any n w hn
theorem PutSigned_at (X m : Int) (w : World) (hX : X = m) (h1 : -9223372036854775808 ≤ m) (h2 : m ≤ 9223372036854775807) : Calls Try.prog 11 #[.int .i64 X] w (RetB 5 w (putF (foldF m))) := by
  subst hX; exact PutSigned_any X w h1 h2
theorem put_bits (n : Nat) (hn : n < 18446744073709551616) (i : Nat) (h : i < (putF n).length) : (128 ≤ ((putF n)[i]).toNat) ↔ i + 1 < (putF n).length := by
  by_cases h2 : i + 1 < (putF n).length
  · exact ⟨fun _ => h2, fun _ => put_more 9 n i h2⟩
  · have := put_last 9 n i (by have : (putF n).length = (putN 9 n).length := rfl; omega) (by omega)
    exact ⟨fun h3 => absurd this (by show ¬ _; have : ((putF n)[i]).toNat = ((putN 9 n)[i]).toNat := rfl; omega), fun h3 => absurd h3 h2⟩
set_option maxRecDepth 100000 in
set_option maxHeartbeats 1000000 in
theorem VarintFolds_any (m : Int) (w : World) (h1 : -9223372036854775808 ≤ m) (h2 : m ≤ 9223372036854775807) :
    Calls Try.prog 7 #[.int .i64 m] w fun e w' => e = .returned (.bool true) ∧ Gr w w' := by
  have hf := foldF_lt m h1 h2
  have HB := Lib.hid (put_bits (foldF m) hf)
  have HG := Lib.hid (get_put (foldF m) [] hf)
  rw [List.append_nil] at HG
  have HU := Lib.hid (unfold_fold m)
  have hlen := putN_len 9 (foldF m)
  have P1 := Lib.hid (fun w => PutSigned_any m w h1 h2)
  have P2 := Lib.hid (fun X w hX => Put_at X (foldF m) w hX hf)
  have HF := Lib.hid (show foldF m = _ from rfl)
  have hl10 : (putF (foldF m)).length ≤ 10 := hlen.1
  clear hlen
  generalize putF (foldF m) = l at *
  have hml : l.length ≤ maxLen := by unfold maxLen; omega
  by_cases hneg : m < 0
  · go_enter Try.func7, Try.ntmps7
    go_wp2_with (first
      | (go_at_call 12; refine (counts_any _).mono ?_; rintro e w0 ⟨rfl, g0⟩)
      | (go_at_call 11; refine (P1.out _).mono ?_; rintro e w1 ⟨ad1, cap1, rfl, o1, g1⟩)
      | (go_at_call 10; refine (P2.out _ _ (by unfold foldF; rw [if_pos hneg]; omega)).mono ?_; rintro e w2 ⟨ad2, cap2, rfl, o2, g2⟩; have hs1 := run_string (P := Try.prog) Try.underlying23 Try.underlying5 Try.underlying9 (cap := cap1) rfl (o1.gr g2).bytes; have hs2 := run_string (P := Try.prog) Try.underlying23 Try.underlying5 Try.underlying9 (cap := cap2) rfl o2.bytes))
    have hb := (o1.gr g2).bytes
    go_loop [6] (fun i => ∃ k : Nat, k ≤ l.length ∧ i = .int .i64 k) (fun i => l.length - (intOf i).toNat)
    case atStart => exact ⟨0, Nat.zero_le _, rfl⟩
    case round =>
      obtain ⟨k, hk, rfl⟩ := hrel
      by_cases hlt : k < l.length
      · have hbb := HB.out k hlt
        obtain ⟨b, off, rfl, hc⟩ := hb k hlt
        by_cases hl2 : k + 1 < l.length
        · have b1 : decide ((128 : Int) ≤ ((l[k]).toNat : Int)) = true := by have := hbb.2 hl2; simp; omega
          have b2 : decide ((k : Int) < (l.length : Int) - 1) = true := by simp; omega
          clear hbb
          go_wp2
          go_round
          case rel => exact ⟨k + 1, by omega, by go_num⟩
          case measure => simp [intOf]; omega
        · have b1 : decide ((128 : Int) ≤ ((l[k]).toNat : Int)) = false := by have : ¬ (128 ≤ (l[k]).toNat) := (fun h => hl2 (hbb.1 h)); simp; omega
          have b2 : decide ((k : Int) < (l.length : Int) - 1) = false := by simp; omega
          clear hbb
          go_wp2
          go_round
          case rel => exact ⟨k + 1, by omega, by go_num⟩
          case measure => simp [intOf]; omega
      · obtain rfl : k = l.length := by omega
        have GS := Lib.hid (GetSigned_any ad1 l.length cap1 l w2 rfl hml hb)
        rw [HG.out, HU.out] at GS
        go_wp2_with (go_at_call 19; refine GS.out.mono ?_; rintro e w' ⟨rfl, rfl⟩)
        go_ret
        exact ⟨rfl, (g0.trans g1).trans g2⟩
  · have HF2 := Lib.hid (show ((foldF m : Nat) : Int) = 2 * m by unfold foldF; rw [if_neg hneg]; omega)
    go_enter Try.func7, Try.ntmps7
    go_wp2_with (first
      | (go_at_call 12; refine (counts_any _).mono ?_; rintro e w0 ⟨rfl, g0⟩)
      | (go_at_call 11; refine (P1.out _).mono ?_; rintro e w1 ⟨ad1, cap1, rfl, o1, g1⟩)
      | (go_at_call 10; refine (P2.out _ _ (by rw [HF2.out]; (try simp only [IntKind.wrap_u64]); omega)).mono ?_; rintro e w2 ⟨ad2, cap2, rfl, o2, g2⟩; have hs1 := run_string (P := Try.prog) Try.underlying23 Try.underlying5 Try.underlying9 (cap := cap1) rfl (o1.gr g2).bytes; have hs2 := run_string (P := Try.prog) Try.underlying23 Try.underlying5 Try.underlying9 (cap := cap2) rfl o2.bytes))
    have hb := (o1.gr g2).bytes
    go_loop [6] (fun i => ∃ k : Nat, k ≤ l.length ∧ i = .int .i64 k) (fun i => l.length - (intOf i).toNat)
    case atStart => exact ⟨0, Nat.zero_le _, rfl⟩
    case round =>
      obtain ⟨k, hk, rfl⟩ := hrel
      by_cases hlt : k < l.length
      · have hbb := HB.out k hlt
        obtain ⟨b, off, rfl, hc⟩ := hb k hlt
        by_cases hl2 : k + 1 < l.length
        · have b1 : decide ((128 : Int) ≤ ((l[k]).toNat : Int)) = true := by have := hbb.2 hl2; simp; omega
          have b2 : decide ((k : Int) < (l.length : Int) - 1) = true := by simp; omega
          clear hbb
          go_wp2
          go_round
          case rel => exact ⟨k + 1, by omega, by go_num⟩
          case measure => simp [intOf]; omega
        · have b1 : decide ((128 : Int) ≤ ((l[k]).toNat : Int)) = false := by have : ¬ (128 ≤ (l[k]).toNat) := (fun h => hl2 (hbb.1 h)); simp; omega
          have b2 : decide ((k : Int) < (l.length : Int) - 1) = false := by simp; omega
          clear hbb
          go_wp2
          go_round
          case rel => exact ⟨k + 1, by omega, by go_num⟩
          case measure => simp [intOf]; omega
      · obtain rfl : k = l.length := by omega
        have GS := Lib.hid (GetSigned_any ad1 l.length cap1 l w2 rfl hml hb)
        rw [HG.out, HU.out] at GS
        go_wp2_with (go_at_call 19; refine GS.out.mono ?_; rintro e w' ⟨rfl, rfl⟩)
        go_ret
        exact ⟨rfl, (g0.trans g1).trans g2⟩

set_option maxRecDepth 100000 in
set_option maxHeartbeats 2000000 in
theorem VarintOrders_any (a b : Nat) (w : World) (ha : a < 18446744073709551616) (hb : b < 18446744073709551616) :
    Calls Try.prog 3 #[.int .u64 a, .int .u64 b] w fun e w' => e = .returned (.bool true) ∧ Gr w w' := by
  have PA := Lib.hid (fun w => Put_any a w ha)
  have PB := Lib.hid (fun w => Put_any b w hb)
  have PS := Lib.hid (fun X w hX => PutSigned_at X ((a / 2 : Nat) : Int) w hX (by omega) (by omega))
  have PT := Lib.hid (fun X w hX => PutSigned_at X (-((b / 2 : Nat) : Int)) w hX (by omega) (by omega))
  have lx := (putN_len 9 a)
  have E1 : (putF a == putF b) = ((a : Int) == (b : Int)) := by
    rw [Bool.eq_iff_iff, beq_iff_eq, beq_iff_eq]
    exact ⟨fun h => by rw [put_inj ha hb h], fun h => by rw [show a = b by omega]⟩
  have hu : foldF ((a / 2 : Nat) : Int) = 2 * (a / 2) := by unfold foldF; rw [if_neg (by omega)]; omega
  have hv : foldF (-((b / 2 : Nat) : Int)) = 2 * (b / 2) - 1 := by unfold foldF; split <;> omega
  have E2 : (putF (foldF ((a / 2 : Nat) : Int)) == putF (foldF (-((b / 2 : Nat) : Int)))) = ((a : Int) / 2 == -((b : Int) / 2)) := by
    rw [Bool.eq_iff_iff, beq_iff_eq, beq_iff_eq]
    refine ⟨fun h => ?_, fun h => ?_⟩
    · have := put_inj (foldF_lt _ (by omega) (by omega)) (foldF_lt _ (by omega) (by omega)) h
      rw [hu, hv] at this
      omega
    · rw [hu, hv]; congr 1; omega
  have LAB : a ≤ b → (putF a).length ≤ (putF b).length := put_mono 9 a b
  have LBA : b ≤ a → (putF b).length ≤ (putF a).length := put_mono 9 b a
  have LUV : a / 2 < b / 2 → (putF (foldF ((a / 2 : Nat) : Int))).length ≤ (putF (foldF (-((b / 2 : Nat) : Int)))).length := fun h => put_mono 9 _ _ (by rw [hu, hv]; omega)
  have LVU : b / 2 < a / 2 → (putF (foldF (-((b / 2 : Nat) : Int)))).length ≤ (putF (foldF ((a / 2 : Nat) : Int))).length := fun h => put_mono 9 _ _ (by rw [hu, hv]; omega)
  generalize foldF ((a / 2 : Nat) : Int) = U at *
  generalize foldF (-((b / 2 : Nat) : Int)) = V at *
  change (putF a).length ≤ 10 ∧ 1 ≤ (putF a).length at lx
  obtain ⟨lx1, lx2⟩ := lx
  have b10 : decide (((putF a).length : Int) ≤ 10) = true := by simp; omega
  clear hu hv
  have hcase : (a < b ∧ a / 2 < b / 2) ∨ (a < b ∧ a / 2 = b / 2) ∨ a = b ∨ (b < a ∧ b / 2 < a / 2) ∨ (b < a ∧ b / 2 = a / 2) := by omega
  rcases hcase with ⟨c1, c2⟩ | ⟨c1, c2⟩ | c1 | ⟨c1, c2⟩ | ⟨c1, c2⟩
  · have l1 := LAB (by omega)
    have l2 := LUV c2
    clear LAB LBA LUV LVU
    go_enter Try.func3, Try.ntmps3
    go_wp2_with (first
      | (go_at_call 12; refine (counts_any _).mono ?_; rintro e w5 ⟨rfl, g5⟩; have hs1 := run_string (P := Try.prog) Try.underlying23 Try.underlying5 Try.underlying9 (cap := cap1) rfl ((o1.gr ((g2.trans g3).trans g4)).gr g5).bytes; have hs2 := run_string (P := Try.prog) Try.underlying23 Try.underlying5 Try.underlying9 (cap := cap2) rfl ((o2.gr (g3.trans g4)).gr g5).bytes; have hs3 := run_string (P := Try.prog) Try.underlying23 Try.underlying5 Try.underlying9 (cap := cap3) rfl ((o3.gr g4).gr g5).bytes; have hs4 := run_string (P := Try.prog) Try.underlying23 Try.underlying5 Try.underlying9 (cap := cap4) rfl (o4.gr g5).bytes)
      | (go_at_call 10; (with_reducible refine (PA.out _).mono ?_); rintro e w1 ⟨ad1, cap1, rfl, o1, g1⟩; clear PA)
      | (go_at_call 10; (with_reducible refine (PB.out _).mono ?_); rintro e w2 ⟨ad2, cap2, rfl, o2, g2⟩)
      | (go_at_call 11; refine (PS.out _ _ (by omega)).mono ?_; rintro e w3 ⟨ad3, cap3, rfl, o3, g3⟩; clear PS)
      | (go_at_call 11; refine (PT.out _ _ (by omega)).mono ?_; rintro e w4 ⟨ad4, cap4, rfl, o4, g4⟩))
    go_ret
    exact ⟨rfl, (((g1.trans g2).trans g3).trans g4).trans g5⟩
  · have l1 := LAB (by omega)
    have c3 : (a : Int) / 2 ≤ (b : Int) / 2 := by omega
    have c4 : (b : Int) / 2 ≤ (a : Int) / 2 := by omega
    clear LAB LBA LUV LVU c2
    go_enter Try.func3, Try.ntmps3
    go_wp2_with (first
      | (go_at_call 12; refine (counts_any _).mono ?_; rintro e w5 ⟨rfl, g5⟩; have hs1 := run_string (P := Try.prog) Try.underlying23 Try.underlying5 Try.underlying9 (cap := cap1) rfl ((o1.gr ((g2.trans g3).trans g4)).gr g5).bytes; have hs2 := run_string (P := Try.prog) Try.underlying23 Try.underlying5 Try.underlying9 (cap := cap2) rfl ((o2.gr (g3.trans g4)).gr g5).bytes; have hs3 := run_string (P := Try.prog) Try.underlying23 Try.underlying5 Try.underlying9 (cap := cap3) rfl ((o3.gr g4).gr g5).bytes; have hs4 := run_string (P := Try.prog) Try.underlying23 Try.underlying5 Try.underlying9 (cap := cap4) rfl (o4.gr g5).bytes)
      | (go_at_call 10; (with_reducible refine (PA.out _).mono ?_); rintro e w1 ⟨ad1, cap1, rfl, o1, g1⟩; clear PA)
      | (go_at_call 10; (with_reducible refine (PB.out _).mono ?_); rintro e w2 ⟨ad2, cap2, rfl, o2, g2⟩)
      | (go_at_call 11; refine (PS.out _ _ (by omega)).mono ?_; rintro e w3 ⟨ad3, cap3, rfl, o3, g3⟩; clear PS)
      | (go_at_call 11; refine (PT.out _ _ (by omega)).mono ?_; rintro e w4 ⟨ad4, cap4, rfl, o4, g4⟩))
    go_ret
    exact ⟨rfl, (((g1.trans g2).trans g3).trans g4).trans g5⟩
  · have l1 := LAB (by omega)
    have l2 := LBA (by omega)
    have c3 : (a : Int) / 2 ≤ (b : Int) / 2 := by omega
    have c4 : (b : Int) / 2 ≤ (a : Int) / 2 := by omega
    have c5 : ¬ a < b := by omega
    have c6 : ¬ b < a := by omega
    clear LAB LBA LUV LVU c1
    go_enter Try.func3, Try.ntmps3
    go_wp2_with (first
      | (go_at_call 12; refine (counts_any _).mono ?_; rintro e w5 ⟨rfl, g5⟩; have hs1 := run_string (P := Try.prog) Try.underlying23 Try.underlying5 Try.underlying9 (cap := cap1) rfl ((o1.gr ((g2.trans g3).trans g4)).gr g5).bytes; have hs2 := run_string (P := Try.prog) Try.underlying23 Try.underlying5 Try.underlying9 (cap := cap2) rfl ((o2.gr (g3.trans g4)).gr g5).bytes; have hs3 := run_string (P := Try.prog) Try.underlying23 Try.underlying5 Try.underlying9 (cap := cap3) rfl ((o3.gr g4).gr g5).bytes; have hs4 := run_string (P := Try.prog) Try.underlying23 Try.underlying5 Try.underlying9 (cap := cap4) rfl (o4.gr g5).bytes)
      | (go_at_call 10; (with_reducible refine (PA.out _).mono ?_); rintro e w1 ⟨ad1, cap1, rfl, o1, g1⟩; clear PA)
      | (go_at_call 10; (with_reducible refine (PB.out _).mono ?_); rintro e w2 ⟨ad2, cap2, rfl, o2, g2⟩)
      | (go_at_call 11; refine (PS.out _ _ (by omega)).mono ?_; rintro e w3 ⟨ad3, cap3, rfl, o3, g3⟩; clear PS)
      | (go_at_call 11; refine (PT.out _ _ (by omega)).mono ?_; rintro e w4 ⟨ad4, cap4, rfl, o4, g4⟩))
    go_ret
    exact ⟨rfl, (((g1.trans g2).trans g3).trans g4).trans g5⟩
  · have l1 := LBA (by omega)
    have l2 := LVU c2
    clear LAB LBA LUV LVU
    go_enter Try.func3, Try.ntmps3
    go_wp2_with (first
      | (go_at_call 12; refine (counts_any _).mono ?_; rintro e w5 ⟨rfl, g5⟩; have hs1 := run_string (P := Try.prog) Try.underlying23 Try.underlying5 Try.underlying9 (cap := cap1) rfl ((o1.gr ((g2.trans g3).trans g4)).gr g5).bytes; have hs2 := run_string (P := Try.prog) Try.underlying23 Try.underlying5 Try.underlying9 (cap := cap2) rfl ((o2.gr (g3.trans g4)).gr g5).bytes; have hs3 := run_string (P := Try.prog) Try.underlying23 Try.underlying5 Try.underlying9 (cap := cap3) rfl ((o3.gr g4).gr g5).bytes; have hs4 := run_string (P := Try.prog) Try.underlying23 Try.underlying5 Try.underlying9 (cap := cap4) rfl (o4.gr g5).bytes)
      | (go_at_call 10; (with_reducible refine (PA.out _).mono ?_); rintro e w1 ⟨ad1, cap1, rfl, o1, g1⟩; clear PA)
      | (go_at_call 10; (with_reducible refine (PB.out _).mono ?_); rintro e w2 ⟨ad2, cap2, rfl, o2, g2⟩)
      | (go_at_call 11; refine (PS.out _ _ (by omega)).mono ?_; rintro e w3 ⟨ad3, cap3, rfl, o3, g3⟩; clear PS)
      | (go_at_call 11; refine (PT.out _ _ (by omega)).mono ?_; rintro e w4 ⟨ad4, cap4, rfl, o4, g4⟩))
    go_ret
    exact ⟨rfl, (((g1.trans g2).trans g3).trans g4).trans g5⟩
  · have l1 := LBA (by omega)
    have c3 : (a : Int) / 2 ≤ (b : Int) / 2 := by omega
    have c4 : (b : Int) / 2 ≤ (a : Int) / 2 := by omega
    clear LAB LBA LUV LVU c2
    go_enter Try.func3, Try.ntmps3
    go_wp2_with (first
      | (go_at_call 12; refine (counts_any _).mono ?_; rintro e w5 ⟨rfl, g5⟩; have hs1 := run_string (P := Try.prog) Try.underlying23 Try.underlying5 Try.underlying9 (cap := cap1) rfl ((o1.gr ((g2.trans g3).trans g4)).gr g5).bytes; have hs2 := run_string (P := Try.prog) Try.underlying23 Try.underlying5 Try.underlying9 (cap := cap2) rfl ((o2.gr (g3.trans g4)).gr g5).bytes; have hs3 := run_string (P := Try.prog) Try.underlying23 Try.underlying5 Try.underlying9 (cap := cap3) rfl ((o3.gr g4).gr g5).bytes; have hs4 := run_string (P := Try.prog) Try.underlying23 Try.underlying5 Try.underlying9 (cap := cap4) rfl (o4.gr g5).bytes)
      | (go_at_call 10; (with_reducible refine (PA.out _).mono ?_); rintro e w1 ⟨ad1, cap1, rfl, o1, g1⟩; clear PA)
      | (go_at_call 10; (with_reducible refine (PB.out _).mono ?_); rintro e w2 ⟨ad2, cap2, rfl, o2, g2⟩)
      | (go_at_call 11; refine (PS.out _ _ (by omega)).mono ?_; rintro e w3 ⟨ad3, cap3, rfl, o3, g3⟩; clear PS)
      | (go_at_call 11; refine (PT.out _ _ (by omega)).mono ?_; rintro e w4 ⟨ad4, cap4, rfl, o4, g4⟩))
    go_ret
    exact ⟨rfl, (((g1.trans g2).trans g3).trans g4).trans g5⟩
end Go.Proofs.Ytmbjihjcblklmaa
