/- Layer 4 (crc): CrcTells. -/
import Derived.Test.YtpebdkkcbhlidaaCrcLaws
namespace Go.Proofs.Ytpebdkkcbhlidaa
open Go.RowKit Crc
set_option maxRecDepth 100000 in
set_option maxHeartbeats 2000000 in
theorem CrcTells_any (ad : Option Addr) (len cap : Nat) (l : List UInt8) (at_ : Int) (t : BitVec 32) (w : World) (hl : l.length = len) (hlc : len ≤ cap) (hm : len ≤ 140737488351232) (hb : Bytes w ad l)
    (hat : -9223372036854775808 ≤ at_ ∧ at_ ≤ 9223372036854775807) :
    Calls Try.prog 4 #[.slice ad len cap, .int .i64 at_, .int .u32 (U t)] w fun e w' => e = .returned (.bool true) ∧ Gr w w' := by
  by_cases h0 : len = 0
  · subst h0
    go_enter Try.func4, Try.ntmps4
    go_wp2_with (go_at_call 7; first | (refine (sums_any _).mono ?_; rintro e w1 ⟨rfl, g1⟩))
    go_ret
    exact ⟨rfl, Gr.trans (by assumption) (by assumption)⟩
  · by_cases ht : t = 0#32
    · subst ht
      have hz : (U 0#32 == 0) = true := by rw [← U_lit 0 rfl (by decide)]; rfl
      have hl0 : ((len : Int) == 0) = false := by rw [beq_eq_false_iff_ne]; omega
      have H0 := Lib.hid h0; clear h0
      go_enter Try.func4, Try.ntmps4
      go_wp2_with (go_at_call 7; refine (sums_any _).mono ?_; rintro e w' ⟨rfl, g1⟩)
      go_ret
      exact ⟨rfl, Gr.trans (by assumption) (by assumption)⟩
    · have hz : (U t == 0) = false := by
        rw [beq_eq_false_iff_ne]
        exact fun h => ht (U_inj (h.trans (U_lit 0 rfl (by decide))))
      have hl0 : ((len : Int) == 0) = false := by rw [beq_eq_false_iff_ne]; omega
      have HT := Lib.hid ht; clear ht
      have hm1 : len ≤ maxLen := by unfold maxLen; omega
      obtain ⟨k, hk, hklt⟩ := mod_pick at_ (8 * (len : Int)) (by omega) (by omega)
      go_enter Try.func4, Try.ntmps4
      go_wp2_with (first | (go_at_call 7; refine (sums_any _).mono ?_; rintro e w1 ⟨rfl, g1⟩) | (go_at_call 8; refine (sum_any _ _ _ l _ hl hm1 (hb.gr g1)).mono ?_; rintro e w' ⟨rfl, rfl⟩) | (at_builtin; refine wp_append elemB rfl _ _ rfl rfl (Owns.made _ w1.heap.size #[] 5 (0, 0) 1 0 0 [] (Nat.le_refl _) (Nat.zero_le _) (Nat.le_refl _) rfl (Nat.le_refl _) rfl) rfl (Src.bytes ((hb.gr g1).gr (Gr.alloc _ _)) hl Try.underlying22) (by unfold maxLen; omega) (by omega) (by simp) ?_; intro ad2 cap2 w2 o2 k2 f2))
      simp only [hk]
      clear hk
      simp only [Nat.zero_add, List.nil_append] at o2
      obtain ⟨g, rfl, hgb, _⟩ := o2.at (bv_get l 0 (by omega))
      have G2 : Gr w w2 := (g1.trans (Gr.alloc _ _)).grown k2 (fun k hk => by cases hk; exact g1.size)
      go_loopw [10, 11] (fun s v wr => ∃ i : Nat, ∃ cl : List UInt8, i ≤ 32 ∧ k + i ≤ 8 * len ∧ v = .int .i64 i ∧ s = .bool (nz (accF t i)) ∧ Owns wr w1.heap.size 5 1 (some ⟨g, 0, none⟩) cap2 len (bv cl) ∧ Gr w wr ∧ sumF cl = sumF l ^^^ iterF (8 * len - k) (accF t i)) (fun _ v _ => 32 - (intOf v).toNat)
      case atStart => exact ⟨0, l, by omega, by omega, rfl, by rfl, o2, G2, by rw [accF, iterF_zero]; simp⟩
      case round =>
        obtain ⟨i, cl, hi, hki, rfl, rfl, ho, hg, hs⟩ := hrel
        have HS := Lib.hid hs; clear hs
        by_cases hlt : i < 32 ∧ k + i < 8 * len
        · obtain ⟨l1, l2⟩ := hlt
          have hub := U_bit t i
          by_cases hbit : t.getLsbD i = true
          · have hub1 : (bits BinOp.and IntKind.u32 (U t / 2 ^ i) 1 == 1) = true := by rw [hub, if_pos hbit]; rfl
            have HB := Lib.hid hbit; clear hbit hub
            obtain ⟨q, r, hqr, hr⟩ : ∃ q r : Nat, k + i = 8 * q + r ∧ r < 8 := ⟨(k + i) / 8, (k + i) % 8, by omega, by omega⟩
            have f1 : q < len := by omega
            have hcl : q < cl.length := by rw [ho.len]; exact f1
            obtain ⟨_, e0, _, c0⟩ := ho.at (bv_get cl _ hcl)
            cases e0
            have f0 := ho.unfrozen (i := q) rfl (by omega)
            have e1 : IntKind.i64.wrap ((k : Int) + (i : Int)) = (k : Int) + (i : Int) := IntWalk.i64_in _ ⟨by omega, by omega⟩
            have e2 : ((k : Int) + (i : Int)).tdiv 8 = (q : Int) := by rw [Int.tdiv_eq_ediv_of_nonneg (by omega)]; omega
            have e3 : IntKind.i64.wrap (q : Int) = (q : Int) := IntWalk.i64_in _ ⟨by omega, by omega⟩
            have e4 : ((k : Int) + (i : Int)).tmod 8 = (r : Int) := by rw [Int.tmod_eq_emod_of_nonneg (by omega)]; omega
            have e5 : IntKind.i64.wrap (r : Int) = (r : Int) := IntWalk.i64_in _ ⟨by omega, by omega⟩
            have HQ := Lib.hid hqr; clear hqr
            have E1 := Lib.hid e1; have E2 := Lib.hid e2; have E3 := Lib.hid e3; have E4 := Lib.hid e4; have E5 := Lib.hid e5
            clear e1 e2 e3 e4 e5
            go_wp2
            have e1 := E1.out; have e2 := E2.out; have e3 := E3.out; have e4 := E4.out; have e5 := E5.out
            go_still_tail 19, (by kernel_rfl)
            clear e1 e2 e3 e4 e5
            go_wp2
            go_roundw
            case rel =>
              have hb := HB.out
              refine ⟨i + 1, cl.set q (cl[q] ^^^ UInt8.ofNat (2 ^ r)), by omega, by omega, by go_num, by rw [(accF_on t i l1 hb).2], ?_, ?_, ?_⟩
              · rw [b8_pow, b8_xor, ← bv_set]
                exact (ho.store rfl f1 _).gr (Gr.drew _)
              · exact (hg.setCell (show w.heap.size ≤ g by have := g1.size; omega) _).trans (Gr.drew _)
              · have := rel_on l cl t k i q r hcl hr HQ.out l1 (by rw [ho.len, hl]) hb (by rw [hl]; exact HS.out)
                rw [hl] at this
                exact this
            case measure => simp [intOf]; omega
          · have hub1 : (bits BinOp.and IntKind.u32 (U t / 2 ^ i) 1 == 1) = false := by rw [hub, if_neg hbit]; rfl
            have HB := Lib.hid hbit; clear hbit hub
            go_wp2
            go_roundw
            case rel => exact ⟨i + 1, cl, by omega, by omega, by go_num, by rw [accF_off t i HB.out], ho, hg, by rw [accF_off t i HB.out]; exact HS.out⟩
            case measure => simp [intOf]; omega
        · have hX := Lib.hid (tells HS.out)
          have hcm := ho.bytes
          have hcl := ho.len
          have hX1 : ((U (sumF cl) != U (sumF l)) == nz (accF t i)) = true := by
            rw [beq_iff_eq, Bool.eq_iff_iff, bne_iff_ne]
            unfold nz
            rw [decide_eq_true_iff, ← hX.out]
            exact ⟨fun h e => h (by rw [e]), fun h e => h (U_inj e)⟩
          have hX2 : (U (sumF l) == U (sumF l)) = true := by simp
          by_cases h32 : i < 32
          all_goals
            go_wp2_with fail
            refine (sum_any _ _ _ cl _ hcl hm1 hcm).mono ?_
            rintro e w' ⟨rfl, rfl⟩
            go_wp2_with fail
            refine (sum_any _ _ _ l _ hl hm1 (hb.gr hg)).mono ?_
            rintro e w' ⟨rfl, rfl⟩
            go_wp2
            go_ret
            exact ⟨rfl, hg⟩
end Go.Proofs.Ytpebdkkcbhlidaa
