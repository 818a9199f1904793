/- Layer 3 (varint): what the reference's functions compute. -/
import Derived.Test.YtmbjihjcblklmaaVarintFns
import Derived.Test.YtmbjihjcblklmaaAny
namespace Go.Proofs.Ytmbjihjcblklmaa
set_option linter.unusedVariables false
set_option linter.unusedSimpArgs false
open Go.RowKit Varint
set_option maxRecDepth 100000 in
set_option maxHeartbeats 1000000 in
theorem rPut_any : ∀ (k n : Nat) (w : World), n < 2 * 128 ^ k → k ≤ 9 → Calls Try.prog 13 #[.int .u64 n] w fun e w' => e = .returned (.string (str (putN k n))) ∧ Gr w w' := by
  have small : ∀ (k n : Nat) (w : World), n < 128 → Calls Try.prog 13 #[.int .u64 n] w fun e w' => e = .returned (.string (str (putN k n))) ∧ Gr w w' := by
    intro k n w hlt
    have HV := Lib.hid (show (n : Int) = ((UInt8.ofNat n).toNat : Int) by rw [UInt8.toNat_ofNat']; omega)
    have HR := Lib.hid (putN_small (k := k) hlt)
    have hs := (run_string (P := Try.prog) Try.underlying23 Try.underlying5 Try.underlying9 (cap := 1) (len := 1) rfl (Bytes.alloc w #[.int .u8 (n : Int)] 5 (0, 0) [UInt8.ofNat n] (by rw [HV.out]; rfl)))
    go_enter Try.func13, Try.ntmps13
    go_wp2
    go_ret
    exact ⟨by rw [HR.out]; rfl, Gr.alloc _ _⟩
  intro k
  induction k with
  | zero =>
    intro n w hn _
    have h2 : n < 2 := by simpa using hn
    exact small 0 n w (by omega)
  | succ k ih =>
    intro n w hn hk
    have IH := Lib.hid ih; clear ih
    have HN := Lib.hid hn
    have hpw : 128 ^ (k + 1) ≤ 128 ^ 9 := Nat.pow_le_pow_right (by decide) hk
    have hb : n < 18446744073709551616 := by omega
    clear hn hpw
    by_cases hlt : n < 128
    · exact small _ _ _ hlt
    · generalize hx : UInt8.ofNat (n % 128 + 128) = x
      have HX := Lib.hid hx; clear hx
      have HV := Lib.hid (show IntKind.u8.wrap (IntKind.u64.wrap ((n : Int).tmod 128 + 128)) = (x.toNat : Int) by
        rw [← HX.out, UInt8.toNat_ofNat', Int.tmod_eq_emod_of_nonneg (by omega), IntKind.wrap_u64, IntKind.wrap_u8']; omega)
      have HD := Lib.hid (show IntKind.u64.wrap ((n : Int) / 128) = ((n / 128 : Nat) : Int) by rw [IntKind.wrap_u64]; omega)
      have HB := Lib.hid (show n / 128 < 2 * 128 ^ k by have := HN.out; rw [Nat.pow_succ] at this; omega)
      go_enter Try.func13, Try.ntmps13
      go_wp2
      refine region_any_gr 19 [Is ?r0, Is ?r1, Is ?r2, Is ?r3, ReadsB [x], Is (.string (str [x])), Is ?r6, Is ?r7, Is (.string (str (putN k (n / 128)))), Is (.string (str (x :: putN k (n / 128)))), Is ?r10] (by kernel_rfl) (by kernel_rfl) (by kernel_rfl) rfl rfl ⟨Is.stable _, Is.stable _, Is.stable _, Is.stable _, ReadsB.stable _, Is.stable _, Is.stable _, Is.stable _, Is.stable _, Is.stable _, Is.stable _, trivial⟩ ⟨?s0, ?s1, ?s2, ?s3, ?s4, ?s5, ?s6, ?s7, ?s8, ?s9, ?s10, trivial⟩ ?fin
      case' s0 | s1 | s2 | s3 | s4 | s5 | s6 | s7 | s8 | s9 | s10 =>
        intro ρ w1 hρ hg hK
        simp [readsOf, slotsOf, Op.operands, Call.operands, tmpOf, List.filterMap_cons, List.filterMap_nil, KnownAll, knownOf, srcOf, depsOf, dstOf, Region.binds, nth, Is] at hK
        obtain ⟨hc, hf, hgl⟩ := hρ
        simp only [wantedBy, nth, List.getD_cons_zero, List.getD_cons_succ, if_true]
        go_simp
        try exact rfl
      case s4 => exact ⟨Gr.alloc _ _, some ⟨w1.heap.size, 0, none⟩, 1, rfl, Bytes.alloc _ _ _ (0, 0) [x] (by rw [HV.out]; rfl)⟩
      case s5 =>
        obtain ⟨ad, cap, e, hb⟩ := hK
        rw [e, run_string Try.underlying23 Try.underlying5 Try.underlying9 rfl hb]
        exact is_here rfl
      case s8 =>
        rw [HD.out]
        refine (IH.out (n / 128) w1 HB.out (by omega)).mono ?_
        rintro e w2 ⟨rfl, hg2⟩
        exact ⟨_, rfl, hg2, rfl⟩
      case s9 =>
        rw [if_neg (by rw [str_size, str_size]; have := putN_len k (n / 128); simp; omega)]
        exact is_here (by rw [str_append]; rfl)
      case fin =>
        intro w1 val hg hH
        simp only [Holds, Is, Nat.zero_add, Nat.reduceAdd] at hH
        obtain ⟨h0, h1, h2, h3, ⟨ad, cap, h4, _⟩, h5, h6, h7, h8, h9, h10, _⟩ := hH
        simp only [putAll, h0, h1, h2, h3, h4, h5, h6, h7, h8, h9, h10, Nat.zero_add, Nat.reduceAdd]
        go_simp
        go_wp2
        go_ret
        exact ⟨by rw [putN_big hlt, HX.out]; rfl, hg⟩
end Go.Proofs.Ytmbjihjcblklmaa
