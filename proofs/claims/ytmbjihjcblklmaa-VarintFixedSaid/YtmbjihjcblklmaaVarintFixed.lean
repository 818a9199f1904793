/- Layer 3 (varint): VarintFixed answers true. -/
import Derived.Test.YtmbjihjcblklmaaVarintLaws
namespace Go.Proofs.Ytmbjihjcblklmaa
open Go.RowKit Varint
theorem le_bytesN : ∀ k n, n < 256 ^ k → le (bytesN k n) = n
  | 0, n, h => by simp at h; subst h; rfl
  | k + 1, n, h => by
    rw [Nat.pow_succ] at h
    show (UInt8.ofNat n).toNat + 256 * le (bytesN k (n / 256)) = n
    rw [le_bytesN k (n / 256) (by omega), UInt8.toNat_ofNat']
    omega
theorem bytesN_le : ∀ l : List UInt8, bytesN l.length (le l) = l
  | [] => rfl
  | x :: l => by
    have hx := x.toNat_lt
    show UInt8.ofNat (x.toNat + 256 * le l) :: bytesN l.length ((x.toNat + 256 * le l) / 256) = x :: l
    have h1 : (x.toNat + 256 * le l) / 256 = le l := by omega
    have h2 : UInt8.ofNat (x.toNat + 256 * le l) = x := by
      apply UInt8.toNat_inj.1
      rw [UInt8.toNat_ofNat']; omega
    rw [h1, h2, bytesN_le l]
theorem fixed_whole {n : Nat} {s : Int} {l : List UInt8} (h : fixedF n s = (l, 0)) : wholeF l = (n, 0) := by
  unfold fixedF at h
  split at h
  · simp at h
  · split at h
    · simp at h
    · rename_i h1 h2
      simp only [Prod.mk.injEq, and_true] at h
      subst h
      have h3 : n < 256 ^ s.toNat := by
        have h4 : 0 < 256 ^ s.toNat := Nat.pow_pos (by decide)
        exact (Nat.div_eq_zero_iff_lt h4).1 (by omega)
      unfold wholeF
      rw [bytesN_len, if_neg (by omega), le_bytesN _ _ h3]
theorem whole_fixed {l : List UInt8} (h : l.length ≤ 8) : fixedF (le l) (l.length : Int) = (l, 0) := by
  unfold fixedF
  rw [if_neg (by omega), Int.toNat_natCast, if_neg (by rw [Nat.div_eq_of_lt (le_lt l)]; simp), bytesN_le]
theorem le_u64 {l : List UInt8} (h : l.length ≤ 8) : le l < 18446744073709551616 := by
  have h1 := le_lt l
  have h2 : 256 ^ l.length ≤ 256 ^ 8 := Nat.pow_le_pow_right (by decide) h
  omega
set_option maxRecDepth 100000 in
set_option maxHeartbeats 1000000 in
theorem VarintFixed_any (n : Nat) (s : Int) (ad : Option Addr) (len cap : Nat) (l : List UInt8) (w : World) (hn : n < 18446744073709551616) (h1 : -9223372036854775808 ≤ s) (h2 : s ≤ 9223372036854775807) (hl : l.length = len) (hm : len ≤ maxLen) (hb : Bytes w ad l) :
    Calls Try.prog 9 #[.int .u64 n, .int .i64 s, .slice ad len cap] w fun e w' => e = .returned (.bool true) ∧ Gr w w' := by
  subst hl
  have RF := Lib.hid (rFixed_any n s w hn h1 h2)
  have FX := Lib.hid (fun w => Fixed_any n s w hn h1 h2)
  have RW := Lib.hid (fun w => rWhole_any (str l) w (by rw [str_size]; omega))
  rw [str_list] at RW
  have WB := Lib.hid (fun w hb => Whole_any ad l.length cap l w rfl hm hb)
  have hfw := Lib.hid (fun fl => @fixed_whole n s fl)
  have hlen : (fixedF n s).1.length ≤ 8 := by
    unfold fixedF
    split
    · simp
    · split
      · simp
      · simp only [bytesN_len]; omega
  generalize fixedF n s = F at *
  obtain ⟨fl, fe⟩ := F
  have hk2 : 1 ≤ 2 := by decide
  simp only at hlen
  have hm8 : fl.length ≤ maxLen := by unfold maxLen; omega
  by_cases hw : l.length ≤ 8
  · have hw8 : wholeF l = (le l, 0) := by unfold wholeF; rw [if_neg (by omega)]
    have F2 := Lib.hid (fun w => Fixed_any (le l) (l.length : Int) w (le_u64 (by omega)) (by omega) (by omega))
    rw [whole_fixed hw] at F2
    simp only [hw8] at RW WB
    clear hw8
    by_cases hfe : fe = 0
    · subst hfe
      have HW := Lib.hid (hfw.out fl rfl)
      go_enter Try.func9, Try.ntmps9
      go_wp2_with (first
        | (go_at_call 23; refine RF.out.mono ?_; rintro e w1 ⟨rfl, g1⟩)
        | (go_at_call 24; refine (FX.out _).mono ?_; rintro e w2 ⟨ady, capy, rfl, oy, g2⟩; clear FX; have hs2 := run_string (P := Try.prog) Try.underlying23 Try.underlying5 Try.underlying9 (cap := cap) rfl (hb.gr (g1.trans g2)))
        | (go_at_call 25; refine (RW.out _).mono ?_; rintro e w' ⟨rfl, rfl⟩)
        | (go_at_call 26; refine (WB.out _ (hb.gr (g1.trans g2))).mono ?_; rintro e w' ⟨rfl, rfl⟩; clear WB hs2)
        | (go_at_call 12; refine (counts_any _).mono ?_; rintro e w3 ⟨rfl, g3⟩; have hy := run_string (P := Try.prog) Try.underlying23 Try.underlying5 Try.underlying9 (cap := capy) rfl (oy.gr g3).bytes; have WY := Lib.hid (Whole_any ady fl.length capy fl w3 rfl hm8 (oy.gr g3).bytes); rw [HW.out] at WY)
        | (go_at_call 26; refine WY.out.mono ?_; rintro e w' ⟨rfl, rfl⟩)
        | (go_at_call 24; (with_reducible refine (F2.out _).mono ?_); rintro e w4 ⟨adz, capz, rfl, oz, g4⟩; have hz := run_string (P := Try.prog) Try.underlying23 Try.underlying5 Try.underlying9 (cap := capz) rfl oz.bytes; have hs4 := run_string (P := Try.prog) Try.underlying23 Try.underlying5 Try.underlying9 (cap := cap) rfl (hb.gr (((g1.trans g2).trans g3).trans g4))))
      go_ret
      exact ⟨rfl, ((g1.trans g2).trans g3).trans g4⟩
    · have hx : ((fe : Int) == 0) = false := by rw [beq_eq_false_iff_ne]; omega
      go_enter Try.func9, Try.ntmps9
      go_wp2_with (first
        | (go_at_call 23; refine RF.out.mono ?_; rintro e w1 ⟨rfl, g1⟩)
        | (go_at_call 24; refine (FX.out _).mono ?_; rintro e w2 ⟨ady, capy, rfl, oy, g2⟩; clear FX; have hs2 := run_string (P := Try.prog) Try.underlying23 Try.underlying5 Try.underlying9 (cap := cap) rfl (hb.gr (g1.trans g2)))
        | (go_at_call 25; refine (RW.out _).mono ?_; rintro e w' ⟨rfl, rfl⟩)
        | (go_at_call 26; refine (WB.out _ (hb.gr (g1.trans g2))).mono ?_; rintro e w' ⟨rfl, rfl⟩; clear WB hs2)
        | (go_at_call 12; refine (counts_any _).mono ?_; rintro e w3 ⟨rfl, g3⟩; have hy := run_string (P := Try.prog) Try.underlying23 Try.underlying5 Try.underlying9 (cap := capy) rfl (oy.gr g3).bytes)
        | (go_at_call 24; (with_reducible refine (F2.out _).mono ?_); rintro e w4 ⟨adz, capz, rfl, oz, g4⟩; have hz := run_string (P := Try.prog) Try.underlying23 Try.underlying5 Try.underlying9 (cap := capz) rfl oz.bytes; have hs4 := run_string (P := Try.prog) Try.underlying23 Try.underlying5 Try.underlying9 (cap := cap) rfl (hb.gr (((g1.trans g2).trans g3).trans g4))))
      go_ret
      exact ⟨rfl, ((g1.trans g2).trans g3).trans g4⟩
  · have hw8 : wholeF l = (0, 1) := by unfold wholeF; rw [if_pos (by omega)]
    simp only [hw8] at RW WB
    clear hw8
    by_cases hfe : fe = 0
    · subst hfe
      have HW := Lib.hid (hfw.out fl rfl)
      go_enter Try.func9, Try.ntmps9
      go_wp2_with (first
        | (go_at_call 23; refine RF.out.mono ?_; rintro e w1 ⟨rfl, g1⟩)
        | (go_at_call 24; refine (FX.out _).mono ?_; rintro e w2 ⟨ady, capy, rfl, oy, g2⟩; clear FX; have hs2 := run_string (P := Try.prog) Try.underlying23 Try.underlying5 Try.underlying9 (cap := cap) rfl (hb.gr (g1.trans g2)))
        | (go_at_call 25; refine (RW.out _).mono ?_; rintro e w' ⟨rfl, rfl⟩)
        | (go_at_call 26; refine (WB.out _ (hb.gr (g1.trans g2))).mono ?_; rintro e w' ⟨rfl, rfl⟩; clear WB hs2)
        | (go_at_call 12; refine (counts_any _).mono ?_; rintro e w3 ⟨rfl, g3⟩; have hy := run_string (P := Try.prog) Try.underlying23 Try.underlying5 Try.underlying9 (cap := capy) rfl (oy.gr g3).bytes; have WY := Lib.hid (Whole_any ady fl.length capy fl w3 rfl hm8 (oy.gr g3).bytes); rw [HW.out] at WY)
        | (go_at_call 26; refine WY.out.mono ?_; rintro e w' ⟨rfl, rfl⟩))
      go_ret
      exact ⟨rfl, (g1.trans g2).trans g3⟩
    · have hx : ((fe : Int) == 0) = false := by rw [beq_eq_false_iff_ne]; omega
      go_enter Try.func9, Try.ntmps9
      go_wp2_with (first
        | (go_at_call 23; refine RF.out.mono ?_; rintro e w1 ⟨rfl, g1⟩)
        | (go_at_call 24; refine (FX.out _).mono ?_; rintro e w2 ⟨ady, capy, rfl, oy, g2⟩; clear FX; have hs2 := run_string (P := Try.prog) Try.underlying23 Try.underlying5 Try.underlying9 (cap := cap) rfl (hb.gr (g1.trans g2)))
        | (go_at_call 25; refine (RW.out _).mono ?_; rintro e w' ⟨rfl, rfl⟩)
        | (go_at_call 26; refine (WB.out _ (hb.gr (g1.trans g2))).mono ?_; rintro e w' ⟨rfl, rfl⟩; clear WB hs2)
        | (go_at_call 12; refine (counts_any _).mono ?_; rintro e w3 ⟨rfl, g3⟩; have hy := run_string (P := Try.prog) Try.underlying23 Try.underlying5 Try.underlying9 (cap := capy) rfl (oy.gr g3).bytes))
      go_ret
      exact ⟨rfl, (g1.trans g2).trans g3⟩
end Go.Proofs.Ytmbjihjcblklmaa
