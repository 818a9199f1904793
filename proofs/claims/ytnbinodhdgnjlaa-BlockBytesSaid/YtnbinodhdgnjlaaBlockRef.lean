/- Layer 13 (block): the reference's DocCheck, common, fixed. -/
import Derived.Test.YtnbinodhdgnjlaaBlockSame
import Derived.Test.YtnbinodhdgnjlaaAny
namespace Go.Proofs.Ytnbinodhdgnjlaa
set_option linter.unusedVariables false
set_option linter.unusedSimpArgs false
open Go.RowKit Bk
open Go.Op (bytesLess)
section
open Varint
set_option maxRecDepth 100000 in
set_option maxHeartbeats 1000000 in
theorem rPut_any : ∀ (k n : Nat) (w : World), n < 2 * 128 ^ k → k ≤ 9 → Calls Try.prog 40 #[.int .u64 n] w fun e w' => e = .returned (.string (str (putN k n))) ∧ Gr w w' := by
  have small : ∀ (k n : Nat) (w : World), n < 128 → Calls Try.prog 40 #[.int .u64 n] w fun e w' => e = .returned (.string (str (putN k n))) ∧ Gr w w' := by
    intro k n w hlt
    have HV := Lib.hid (show (n : Int) = ((UInt8.ofNat n).toNat : Int) by rw [UInt8.toNat_ofNat']; omega)
    have HR := Lib.hid (putN_small (k := k) hlt)
    have hs := (run_string (P := Try.prog) Try.underlying26 Try.underlying5 Try.underlying9 (cap := 1) (len := 1) rfl (Bytes.alloc w #[.int .u8 (n : Int)] 5 (0, 0) [UInt8.ofNat n] (by rw [HV.out]; rfl)))
    go_enter Try.func40, Try.ntmps40
    go_wp2
    go_ret
    exact ⟨by rw [HR.out]; rfl, Gr.alloc _ _⟩
  intro k
  induction k with
  | zero =>
    intro n w hn _
    have h2 : n < 2 := by simpa using hn
    exact small 0 n w (by omega)
  | succ k ih =>
    intro n w hn hk
    have IH := Lib.hid ih; clear ih
    have HN := Lib.hid hn
    have hpw : 128 ^ (k + 1) ≤ 128 ^ 9 := Nat.pow_le_pow_right (by decide) hk
    have hb : n < 18446744073709551616 := by omega
    clear hn hpw
    by_cases hlt : n < 128
    · exact small _ _ _ hlt
    · generalize hx : UInt8.ofNat (n % 128 + 128) = x
      have HX := Lib.hid hx; clear hx
      have HV := Lib.hid (show IntKind.u8.wrap (IntKind.u64.wrap ((n : Int).tmod 128 + 128)) = (x.toNat : Int) by
        rw [← HX.out, UInt8.toNat_ofNat', Int.tmod_eq_emod_of_nonneg (by omega), IntKind.wrap_u64, IntKind.wrap_u8']; omega)
      have HD := Lib.hid (show IntKind.u64.wrap ((n : Int) / 128) = ((n / 128 : Nat) : Int) by rw [IntKind.wrap_u64]; omega)
      have HB := Lib.hid (show n / 128 < 2 * 128 ^ k by have := HN.out; rw [Nat.pow_succ] at this; omega)
      go_enter Try.func40, Try.ntmps40
      go_wp2
      refine region_any_gr 19 [Is ?r0, Is ?r1, Is ?r2, Is ?r3, ReadsB [x], Is (.string (str [x])), Is ?r6, Is ?r7, Is (.string (str (putN k (n / 128)))), Is (.string (str (x :: putN k (n / 128)))), Is ?r10] (by kernel_rfl) (by kernel_rfl) (by kernel_rfl) rfl rfl ⟨Is.stable _, Is.stable _, Is.stable _, Is.stable _, ReadsB.stable _, Is.stable _, Is.stable _, Is.stable _, Is.stable _, Is.stable _, Is.stable _, trivial⟩ ⟨?s0, ?s1, ?s2, ?s3, ?s4, ?s5, ?s6, ?s7, ?s8, ?s9, ?s10, trivial⟩ ?fin
      case' s0 | s1 | s2 | s3 | s4 | s5 | s6 | s7 | s8 | s9 | s10 =>
        intro ρ w1 hρ hg hK
        simp [readsOf, slotsOf, Op.operands, Call.operands, tmpOf, List.filterMap_cons, List.filterMap_nil, KnownAll, knownOf, srcOf, depsOf, dstOf, Region.binds, nth, Is] at hK
        obtain ⟨hc, hf, hgl⟩ := hρ
        simp only [wantedBy, nth, List.getD_cons_zero, List.getD_cons_succ, if_true]
        go_simp
        try exact rfl
      case s4 => exact ⟨Gr.alloc _ _, some ⟨w1.heap.size, 0, none⟩, 1, rfl, Bytes.alloc _ _ _ (0, 0) [x] (by rw [HV.out]; rfl)⟩
      case s5 =>
        obtain ⟨ad, cap, e, hb⟩ := hK
        rw [e, run_string Try.underlying26 Try.underlying5 Try.underlying9 rfl hb]
        exact is_here rfl
      case s8 =>
        rw [HD.out]
        refine (IH.out (n / 128) w1 HB.out (by omega)).mono ?_
        rintro e w2 ⟨rfl, hg2⟩
        exact ⟨_, rfl, hg2, rfl⟩
      case s9 =>
        rw [if_neg (by first | (rw [str_size, str_size]; have := putN_len k (n / 128); simp; omega) | (have := putN_len k (n / 128); omega))]
        exact is_here (by first | (rw [str_append]; rfl) | rfl)
      case fin =>
        intro w1 val hg hH
        simp only [Holds, Is, Nat.zero_add, Nat.reduceAdd] at hH
        obtain ⟨h0, h1, h2, h3, ⟨ad, cap, h4, _⟩, h5, h6, h7, h8, h9, h10, _⟩ := hH
        simp only [putAll, h0, h1, h2, h3, h4, h5, h6, h7, h8, h9, h10, Nat.zero_add, Nat.reduceAdd]
        go_simp
        go_wp2
        go_ret
        exact ⟨by rw [putN_big hlt, HX.out]; rfl, hg⟩
set_option maxRecDepth 100000 in
set_option maxHeartbeats 2000000 in
theorem rGet_any (t : ByteArray) (w : World) (hm : t.size ≤ maxLen) :
    Calls Try.prog 42 #[.string t] w fun e w' => e = .returned (.tuple #[.int .u64 (getF t.data.toList).1, .int .i64 (getF t.data.toList).2.1, .int .i64 (getF t.data.toList).2.2]) ∧ w = w' := by
  unfold maxLen at hm
  have HZ := Lib.hid (show t.data.toList.length = t.size by simp)
  generalize hl : t.data.toList = l at *
  have HL := Lib.hid hl; clear hl
  have hat : ∀ k (h : k < t.size), l[k]'(by rw [HZ.out]; exact h) = t[k] := by
    intro k h
    have := HL.out
    subst this
    rfl
  have HA := Lib.hid hat; clear hat
  go_enter Try.func42, Try.ntmps42
  go_wp2
  go_loop [5, 6, 7] (fun i _ _ => ∃ k : Nat, k ≤ t.size ∧ k ≤ 10 ∧ i = .int .i64 k ∧ getF l = getAt l (10 - k) k) (fun i _ _ => t.size - (intOf i).toNat)
  case atStart => exact ⟨0, Nat.zero_le _, by omega, rfl, rfl⟩
  case round =>
    obtain ⟨k, hk, hk10, rfl, hg⟩ := hrel
    have HG := Lib.hid hg; clear hg
    by_cases hin : k < t.size ∧ k < 10
    · obtain ⟨hlt, h10⟩ := hin
      have hll : k < l.length := by rw [HZ.out]; exact hlt
      have hx := byte_hi t[k]
      obtain ⟨f, hf⟩ : ∃ f, 10 - k = f + 1 := ⟨9 - k, by omega⟩
      have HF := Lib.hid hf; clear hf
      have hlx : l[k] = t[k] := HA.out k hlt
      have HX := Lib.hid hlx; clear hlx
      by_cases hxs : t[k].toNat < 128
      · have HE := Lib.hid (show getF l = endAt l k t[k].toNat by rw [HG.out, HF.out, getAt_end hll (by rw [HX.out]; exact hxs), HX.out])
        by_cases hbad : k = 9 ∧ 1 < t[k].toNat ∨ 0 < k ∧ t[k].toNat = 0
        · have HR := Lib.hid (HE.out.trans (endAt_bad hbad))
          by_cases h9 : k = 9
          · have b9 : ((k : Int) == 9) = true := by rw [beq_iff_eq]; omega
            by_cases hx1 : 1 < t[k].toNat
            · have bd : decide ((1 : Int) < t[k].toNat) = true := by simp; omega
              clear h9 hbad
              go_wp2
              go_ret3
              exact ⟨ret3_of HR.out rfl rfl rfl, rfl⟩
            · have bd : decide ((1 : Int) < t[k].toNat) = false := by simp; omega
              have hk0 : 0 < k := by omega
              have b0 : ((t[k].toNat : Int) == 0) = true := by rw [beq_iff_eq]; omega
              clear h9 hbad
              go_wp2
              go_ret3
              exact ⟨ret3_of HR.out rfl rfl rfl, rfl⟩
          · have b9 : ((k : Int) == 9) = false := by rw [beq_eq_false_iff_ne]; omega
            have hk0 : 0 < k := by omega
            have b0 : ((t[k].toNat : Int) == 0) = true := by rw [beq_iff_eq]; omega
            clear hbad
            go_wp2
            go_ret3
            exact ⟨ret3_of HR.out rfl rfl rfl, rfl⟩
        · have HR := Lib.hid (HE.out.trans (endAt_good hbad))
          have HV := Lib.hid (show ∀ j, j ≤ k + 1 → val ((l.take (k + 1)).drop j) < 18446744073709551616 from fun j _ => by
            have h1 := getF_lt l
            rw [HR.out] at h1
            exact Nat.lt_of_le_of_lt (val_drop_le _ j) h1)
          have HD := Lib.hid (show ∀ q, q < k + 1 → ∀ h : q < t.size, val ((l.take (k + 1)).drop q) = t[q].toNat % 128 + 128 * val ((l.take (k + 1)).drop (q + 1)) from fun q hq h => by
            rw [List.drop_eq_getElem_cons (by simp [HZ.out]; omega), List.getElem_take, HA.out q h]; rfl)
          by_cases h9 : k = 9
          · have b9 : ((k : Int) == 9) = true := by rw [beq_iff_eq]; omega
            have bd : decide ((1 : Int) < t[k].toNat) = false := by simp; omega
            have hk0 : 0 < k := by omega
            have b0 : ((t[k].toNat : Int) == 0) = false := by rw [beq_eq_false_iff_ne]; omega
            clear h9 hbad
            go_wp2
            go_loop [6, 7] (fun v i => ∃ j : Nat, j ≤ k + 1 ∧ i = .int .i64 ((j : Int) - 1) ∧ v = .int .u64 (val ((l.take (k + 1)).drop j))) (fun _ i => (intOf i + 1).toNat)
            case atStart => exact ⟨k + 1, Nat.le_refl _, by go_num, by rw [List.drop_of_length_le (by simp; omega)]; rfl⟩
            case round =>
              obtain ⟨j, hj, rfl, rfl⟩ := hrel
              by_cases hj0 : 0 < j
              · obtain ⟨q, rfl⟩ : ∃ q, j = q + 1 := ⟨j - 1, by omega⟩
                have hq : q < t.size := by omega
                have e1 : ((q + 1 : Nat) : Int) - 1 = (q : Int) := by omega
                have hxq := byte_hi t[q]
                have hd := Lib.hid (HD.out q (by omega) hq)
                have hlim := HV.out q (by omega)
                rw [hd.out] at hlim
                generalize hV : val ((l.take (k + 1)).drop (q + 1)) = V at *
                have HV2 := Lib.hid hV; clear hV
                have hx2 : 0 ≤ (t[q].toNat : Int) := Int.natCast_nonneg _
                simp only [e1]
                clear e1
                go_wp2
                go_round
                case rel => exact ⟨q, by omega, rfl, by rw [hd.out]; go_num⟩
                case measure => simp [intOf]
              · obtain rfl : j = 0 := by omega
                go_wp2
                go_ret3
                exact ⟨ret3_of HR.out rfl (by omega) rfl, rfl⟩
          · have b9 : ((k : Int) == 9) = false := by rw [beq_eq_false_iff_ne]; omega
            by_cases hk0 : 0 < k
            · have b0 : ((t[k].toNat : Int) == 0) = false := by rw [beq_eq_false_iff_ne]; omega
              clear h9 hbad
              go_wp2
              go_loop [6, 7] (fun v i => ∃ j : Nat, j ≤ k + 1 ∧ i = .int .i64 ((j : Int) - 1) ∧ v = .int .u64 (val ((l.take (k + 1)).drop j))) (fun _ i => (intOf i + 1).toNat)
              case atStart => exact ⟨k + 1, Nat.le_refl _, by go_num, by rw [List.drop_of_length_le (by simp; omega)]; rfl⟩
              case round =>
                obtain ⟨j, hj, rfl, rfl⟩ := hrel
                by_cases hj0 : 0 < j
                · obtain ⟨q, rfl⟩ : ∃ q, j = q + 1 := ⟨j - 1, by omega⟩
                  have hq : q < t.size := by omega
                  have e1 : ((q + 1 : Nat) : Int) - 1 = (q : Int) := by omega
                  have hxq := byte_hi t[q]
                  have hd := Lib.hid (HD.out q (by omega) hq)
                  have hlim := HV.out q (by omega)
                  rw [hd.out] at hlim
                  generalize hV : val ((l.take (k + 1)).drop (q + 1)) = V at *
                  have HV2 := Lib.hid hV; clear hV
                  have hx2 : 0 ≤ (t[q].toNat : Int) := Int.natCast_nonneg _
                  simp only [e1]
                  clear e1
                  go_wp2
                  go_round
                  case rel => exact ⟨q, by omega, rfl, by rw [hd.out]; go_num⟩
                  case measure => simp [intOf]
                · obtain rfl : j = 0 := by omega
                  go_wp2
                  go_ret3
                  exact ⟨ret3_of HR.out rfl (by omega) rfl, rfl⟩
            · clear h9 hbad
              go_wp2
              go_loop [6, 7] (fun v i => ∃ j : Nat, j ≤ k + 1 ∧ i = .int .i64 ((j : Int) - 1) ∧ v = .int .u64 (val ((l.take (k + 1)).drop j))) (fun _ i => (intOf i + 1).toNat)
              case atStart => exact ⟨k + 1, Nat.le_refl _, by go_num, by rw [List.drop_of_length_le (by simp; omega)]; rfl⟩
              case round =>
                obtain ⟨j, hj, rfl, rfl⟩ := hrel
                by_cases hj0 : 0 < j
                · obtain ⟨q, rfl⟩ : ∃ q, j = q + 1 := ⟨j - 1, by omega⟩
                  have hq : q < t.size := by omega
                  have e1 : ((q + 1 : Nat) : Int) - 1 = (q : Int) := by omega
                  have hxq := byte_hi t[q]
                  have hd := Lib.hid (HD.out q (by omega) hq)
                  have hlim := HV.out q (by omega)
                  rw [hd.out] at hlim
                  generalize hV : val ((l.take (k + 1)).drop (q + 1)) = V at *
                  have HV2 := Lib.hid hV; clear hV
                  have hx2 : 0 ≤ (t[q].toNat : Int) := Int.natCast_nonneg _
                  simp only [e1]
                  clear e1
                  go_wp2
                  go_round
                  case rel => exact ⟨q, by omega, rfl, by rw [hd.out]; go_num⟩
                  case measure => simp [intOf]
                · obtain rfl : j = 0 := by omega
                  go_wp2
                  go_ret3
                  exact ⟨ret3_of HR.out rfl (by omega) rfl, rfl⟩
      · go_wp2
        go_round
        case rel =>
          refine ⟨k + 1, by omega, by omega, by go_num, ?_⟩
          rw [HG.out, HF.out, getAt_on hll (by rw [HX.out]; exact hxs)]
          have := HF.out
          congr 1
          omega
        case measure => simp [intOf]; omega
    · have HR0 := Lib.hid (show getF l = short l by
        rw [HG.out]
        rcases Nat.lt_or_ge k 10 with h | h
        · exact getAt_none (by rw [HZ.out]; omega)
        · have : k = 10 := by omega
          subst this; rfl)
      by_cases hkt : k < t.size
      · have h10 : k = 10 := by omega
        have HR := Lib.hid (show getF l = (0, 0, 2) by rw [HR0.out, short, HZ.out, if_neg (by omega)])
        have hk10' : ¬ k < 10 := by omega
        clear hin h10
        go_wp2
        go_ret3
        exact ⟨ret3_of HR.out rfl rfl rfl, rfl⟩
      · by_cases h10 : t.size < 10
        · have HR := Lib.hid (show getF l = (0, 0, 9) by rw [HR0.out, short, HZ.out, if_pos h10])
          clear hin
          go_wp2
          go_ret3
          exact ⟨ret3_of HR.out rfl rfl rfl, rfl⟩
        · have HR := Lib.hid (show getF l = (0, 0, 2) by rw [HR0.out, short, HZ.out, if_neg h10])
          clear hin
          go_wp2
          go_ret3
          exact ⟨ret3_of HR.out rfl rfl rfl, rfl⟩
set_option maxRecDepth 100000 in
set_option maxHeartbeats 1000000 in
theorem rFixed_any (n : Nat) (s : Int) (w : World) (hn : n < 18446744073709551616) (h1 : -9223372036854775808 ≤ s) (h2 : s ≤ 9223372036854775807) :
    Calls Try.prog 55 #[.int .u64 n, .int .i64 s] w fun e w' => e = .returned (.tuple #[.string (str (fixedF n s).1), .int .i64 (fixedF n s).2]) ∧ Gr w w' := by
  by_cases hs : s < 0 ∨ 8 < s
  · have H := Lib.hid (show fixedF n s = ([], 1) by unfold fixedF; rw [if_pos hs])
    rcases hs with hs | hs
    all_goals
      go_enter Try.func55, Try.ntmps55
      go_wp2
      go_ret2
      exact ⟨by rw [H.out]; rfl, Gr.refl _⟩
  · obtain ⟨k, rfl⟩ := Int.eq_ofNat_of_zero_le (show 0 ≤ s by omega)
    have hk : k ≤ 8 := by omega
    clear hs h1 h2
    go_enter Try.func55, Try.ntmps55
    go_wp2
    go_loopw [0, 6, 7] (fun v b i wr => ∃ (j : Nat) (ad : Option Addr) (cap : Nat), j ≤ k ∧ i = .int .i64 j ∧ v = .int .u64 ((n / 256 ^ j : Nat) : Int) ∧ b = .slice ad j cap ∧ Owns wr w.heap.size 5 1 ad cap j (bv (bytesN j n)) ∧ Gr w wr) (fun _ _ i _ => k - (intOf i).toNat)
    case atStart => exact ⟨0, none, 0, Nat.zero_le _, rfl, by simp, rfl, Owns.empty _ _ _ _, Gr.refl _⟩
    case round =>
      obtain ⟨j, ad, cap, hj, rfl, rfl, rfl, ho, hg⟩ := hrel
      have hs := hg.size
      by_cases hlt : j < k
      · generalize hc : n / 256 ^ j = cur at *
        have hb : cur < 18446744073709551616 := by rw [← hc]; exact Nat.lt_of_le_of_lt (Nat.div_le_self _ _) hn
        have HC := Lib.hid hc; clear hc
        have HX := Lib.hid (show (cur : Int) % 256 = ((UInt8.ofNat cur).toNat : Int) by rw [UInt8.toNat_ofNat']; omega)
        go_wp2_with (at_builtin; refine wp_append elemB rfl _ _ rfl rfl (ho.gr (Gr.alloc _ _)) rfl (Src.one _ _ (UInt8.ofNat cur) HX.out Try.underlying26) (by unfold maxLen; omega) (by omega) (by simp; omega) ?_; intro ad2 cap2 w2 o2 k2 f2)
        go_roundw
        case rel =>
          refine ⟨j + 1, ad2, cap2, by omega, by go_num, ?_, rfl, ?_, hg.app ho (Nat.le_refl _) k2⟩
          · rw [Nat.pow_succ, ← Nat.div_div_eq_div_mul, HC.out]; go_num
          · rw [bytesN_snoc, bv_append, HC.out]; exact o2
        case measure => simp [intOf]; omega
      · obtain rfl : j = k := by omega
        have HS := run_string (P := Try.prog) Try.underlying26 Try.underlying5 Try.underlying9 (cap := cap) (bytesN_len j n) ho.bytes
        by_cases hb : n / 256 ^ j = 0
        · have H := Lib.hid (show fixedF n j = (bytesN j n, 0) by unfold fixedF; rw [if_neg (by omega), if_neg (by simpa using hb)]; rfl)
          have hq : ((n : Int) / 256 ^ j != 0) = false := by rw [show (n : Int) / 256 ^ j = ((n / 256 ^ j : Nat) : Int) by simp, hb]; rfl
          have HB := Lib.hid hb; clear hb
          go_wp2
          go_ret2
          exact ⟨by rw [H.out]; rfl, hg⟩
        · have H := Lib.hid (show fixedF n j = ([], 14) by unfold fixedF; rw [if_neg (by omega), if_pos (by simpa using hb)])
          have hq : ((n : Int) / 256 ^ j != 0) = true := by rw [show (n : Int) / 256 ^ j = ((n / 256 ^ j : Nat) : Int) by simp, bne_iff_ne]; omega
          clear hb
          go_wp2
          go_ret2
          exact ⟨by rw [H.out]; rfl, hg⟩
set_option maxRecDepth 100000 in
set_option maxHeartbeats 1000000 in
theorem rWhole_any (t : ByteArray) (w : World) (hm : t.size ≤ maxLen) :
    Calls Try.prog 41 #[.string t] w fun e w' => e = .returned (.tuple #[.int .u64 (wholeF t.data.toList).1, .int .i64 (wholeF t.data.toList).2]) ∧ w = w' := by
  unfold maxLen at hm
  have hsz : t.data.toList.length = t.size := by simp
  by_cases h8 : 8 < t.size
  · have H := Lib.hid (show wholeF t.data.toList = (0, 1) by unfold wholeF; rw [if_pos (by omega)])
    clear hsz
    go_enter Try.func41, Try.ntmps41
    go_wp2
    go_ret2
    exact ⟨by rw [H.out]; rfl, rfl⟩
  · have H := Lib.hid (show wholeF t.data.toList = (le t.data.toList, 0) by unfold wholeF; rw [if_neg (by omega)])
    have HZ := Lib.hid hsz; clear hsz
    go_enter Try.func41, Try.ntmps41
    go_wp2
    go_loop [4, 5] (fun v i => ∃ k : Nat, k ≤ t.size ∧ i = .int .i64 ((k : Int) - 1) ∧ v = .int .u64 (le (t.data.toList.drop k))) (fun _ i => (intOf i + 1).toNat)
    case atStart => exact ⟨t.size, Nat.le_refl _, rfl, by rw [List.drop_of_length_le (by rw [HZ.out]; exact Nat.le_refl _)]; rfl⟩
    case round =>
      obtain ⟨k, hk, rfl, rfl⟩ := hrel
      by_cases hlt : 0 < k
      · obtain ⟨j, rfl⟩ : ∃ j, k = j + 1 := ⟨k - 1, by omega⟩
        have hj : j < t.size := by omega
        have e1 : ((j + 1 : Nat) : Int) - 1 = (j : Int) := by omega
        have hx := byte_hi t[j]
        have hd := Lib.hid (show le (t.data.toList.drop j) = t[j].toNat + 256 * le (t.data.toList.drop (j + 1)) by
          rw [List.drop_eq_getElem_cons (by rw [HZ.out]; exact hj)]; rfl)
        have hlim : le (t.data.toList.drop (j + 1)) < 72057594037927936 := by
          have h1 := le_lt (t.data.toList.drop (j + 1))
          have h2 : 256 ^ (t.data.toList.drop (j + 1)).length ≤ 256 ^ 7 := Nat.pow_le_pow_right (by decide) (by rw [List.length_drop, HZ.out]; omega)
          omega
        generalize hV : le (t.data.toList.drop (j + 1)) = V at *
        have HV := Lib.hid hV; clear hV
        simp only [e1]
        clear e1
        go_wp2
        go_round
        case rel => exact ⟨j, by omega, rfl, by rw [hd.out]; go_num⟩
        case measure => simp [intOf]
      · obtain rfl : k = 0 := by omega
        go_wp2
        go_ret2
        exact ⟨by rw [H.out]; rfl, rfl⟩
end
theorem longB_of (p : Pr) : longB p = true ↔ 200 < p.1.length ∨ 2000 < p.2.length := by simp [longB]
set_option maxRecDepth 100000 in
set_option maxHeartbeats 2000000 in
theorem rDocCheck_any (ad : Option Addr) (cap : Nat) (l : List Pr) (itv : Int) (w : World) (hr : Row w ad (pv l)) (hl : l.length ≤ 9223372036854775807) :
    Calls Try.prog 37 #[.slice ad l.length cap, .int .i64 itv] w fun e w' => e = .returned (.int .i64 (chkF l itv : Nat)) ∧ Gr w w' := by
  have HR := Lib.hid hr.pair
  clear hr
  by_cases h1 : itv < 1 ∨ 64 < itv
  · have HC := Lib.hid (show chkF l itv = 1 by unfold chkF; rw [if_pos h1])
    have h2 : itv < 1 ∨ (1 ≤ itv ∧ 64 < itv) := by omega
    clear h1
    rcases h2 with h2 | ⟨h2, h3⟩
    · go_enter Try.func37, Try.ntmps37
      go_wp2
      go_ret
      exact ⟨by rw [HC.out]; rfl, Gr.refl _⟩
    · go_enter Try.func37, Try.ntmps37
      go_wp2
      go_ret
      exact ⟨by rw [HC.out]; rfl, Gr.refl _⟩
  · have i1 : 1 ≤ itv := by omega
    have i2 : itv ≤ 64 := by omega
    by_cases h3 : 10000 < l.length
    · have HC := Lib.hid (show chkF l itv = 14 by unfold chkF; rw [if_neg h1, if_pos (.inl h3)])
      clear h1
      go_enter Try.func37, Try.ntmps37
      go_wp2
      go_ret
      exact ⟨by rw [HC.out]; rfl, Gr.refl _⟩
    · have hl4 : l.length ≤ 10000 := by omega
      have HC14 := Lib.hid (fun (hb : l.any longB = true) => show chkF l itv = 14 by unfold chkF; rw [if_neg h1, if_pos (.inr hb)])
      have HC2 := Lib.hid (fun (hb : l.any longB = false) => show chkF l itv = if riseB l = true then 0 else 2 by unfold chkF; rw [if_neg h1, if_neg (by rw [hb]; simp; omega)])
      clear h1 h3
      go_enter Try.func37, Try.ntmps37
      go_wp2
      go_loopw [5] (fun v wr => ∃ i : Nat, i ≤ l.length ∧ v = .int .i64 (i : Int) ∧ Gr w wr ∧ (l.take i).any longB = false) (fun v _ => l.length - (intOf v).toNat)
      case atStart => exact ⟨0, Nat.zero_le _, rfl, Gr.refl _, rfl⟩
      case round =>
        obtain ⟨i, hi, rfl, hg, hn⟩ := hrel
        have HN := Lib.hid hn; clear hn
        by_cases hlt : i < l.length
        · obtain ⟨b, off, rfl, hc1, hc2⟩ := HR.out i hlt
          have q1 := hg.cell hc1
          have q2 := hg.cell hc2
          have HT := Lib.hid (show (l.take (i + 1)).any longB = longB l[i] by rw [List.take_succ_eq_append_getElem hlt, List.any_append, HN.out]; simp)
          have HM := Lib.hid (List.getElem_mem hlt)
          generalize l[i] = p at *
          by_cases hb1 : 200 < p.1.length
          · have HB := Lib.hid ((longB_of p).2 (.inl hb1))
            go_wp2
            go_ret
            exact ⟨by rw [HC14.out (List.any_eq_true.2 ⟨p, HM.out, HB.out⟩)]; rfl, hg⟩
          · by_cases hb2 : 2000 < p.2.length
            · have HB := Lib.hid ((longB_of p).2 (.inr hb2))
              go_wp2
              go_ret
              exact ⟨by rw [HC14.out (List.any_eq_true.2 ⟨p, HM.out, HB.out⟩)]; rfl, hg⟩
            · have HB := Lib.hid (show longB p = false by rw [Bool.eq_false_iff]; intro h; have := (longB_of p).1 h; omega)
              go_wp2
              go_roundw
              case rel => exact ⟨i + 1, hlt, by go_num, hg, by rw [HT.out, HB.out]⟩
              case measure => simp [intOf]; omega
        · obtain rfl : i = l.length := by omega
          have hb : l.any longB = false := by have := HN.out; rwa [List.take_length] at this
          have HCC := Lib.hid (HC2.out hb)
          clear hb
          go_wp2
          go_loopw [6] (fun v wr => ∃ i : Nat, 1 ≤ i ∧ (i ≤ l.length ∨ i = 1) ∧ v = .int .i64 (i : Int) ∧ Gr w wr ∧ (∀ j, j + 1 < i → bytesLess (l.getD j noPr).1 (l.getD (j + 1) noPr).1 = true)) (fun v _ => l.length - (intOf v).toNat)
          case atStart => exact ⟨1, Nat.le_refl _, .inr rfl, rfl, hg, fun j hj => by omega⟩
          case round =>
            obtain ⟨i, hi1, hi2, rfl, hg, hn⟩ := hrel
            have HN := Lib.hid hn; clear hn
            by_cases hlt : i < l.length
            · obtain ⟨i0, rfl⟩ : ∃ i0, i = i0 + 1 := ⟨i - 1, by omega⟩
              obtain ⟨b, off, rfl, hc1, hc2⟩ := HR.out (i0 + 1) hlt
              obtain ⟨b', off', e', hc3, hc4⟩ := HR.out i0 (by omega)
              cases e'
              have q1 := hg.cell hc1
              have q3 := hg.cell hc3
              have hlt0 : i0 < l.length := by omega
              have G1 := Lib.hid (show l.getD (i0 + 1) noPr = l[i0 + 1] by rw [List.getD_eq_getElem?_getD, List.getElem?_eq_getElem hlt, Option.getD_some])
              have G0 := Lib.hid (show l.getD i0 noPr = l[i0] by rw [List.getD_eq_getElem?_getD, List.getElem?_eq_getElem hlt0, Option.getD_some])
              clear hc1 hc2 hc3 hc4
              generalize l[i0 + 1] = p at *
              generalize l[i0] = p0 at *
              have HJ := Lib.hid (show ∀ j, j + 1 < i0 + 1 + 1 → j + 1 < i0 + 1 ∨ j = i0 from fun j hj => by omega)
              cases hb : bytesLess p0.1 p.1 with
              | true =>
                have HB := Lib.hid hb
                have x1 := bl_asymm hb
                have x2 : (p.1 == p0.1) = false := by rw [beq_eq_false_iff_ne]; intro e; rw [e, bl_irr] at hb; cases hb
                clear hb
                go_wp2
                go_quiet (fail)
                go_wp2
                go_roundw
                case rel =>
                  refine ⟨i0 + 1 + 1, by omega, .inl (by omega), by go_num, hg.trans (Gr.drewN _ _), fun j hj => ?_⟩
                  rcases HJ.out j hj with h | rfl
                  · exact HN.out j h
                  · rw [G0.out, G1.out]; exact HB.out
                case measure => simp [intOf]; omega
              | false =>
                have HF := Lib.hid (show riseB l = false by
                  rw [Bool.eq_false_iff]; intro h
                  have := riseB_iff.1 h i0 hlt
                  rw [G0.out, G1.out, hb] at this; cases this)
                cases hc : bytesLess p.1 p0.1 with
                | true =>
                  clear hb
                  go_wp2
                  go_quiet (fail)
                  go_wp2
                  go_ret
                  exact ⟨by rw [HCC.out, HF.out]; rfl, hg.trans (Gr.drewN _ _)⟩
                | false =>
                  have x2 : (p.1 == p0.1) = true := by rw [beq_iff_eq]; exact bl_total hc hb
                  clear hb
                  go_wp2
                  go_quiet (fail)
                  go_wp2
                  go_ret
                  exact ⟨by rw [HCC.out, HF.out]; rfl, hg.trans (Gr.drewN _ _)⟩
            · go_wp2
              go_ret
              refine ⟨?_, hg⟩
              rw [HCC.out, if_pos (riseB_iff.2 fun j hj => HN.out j (by omega))]
              rfl
set_option maxRecDepth 100000 in
set_option maxHeartbeats 1000000 in
theorem rcommon_any (a b : List UInt8) (w : World) (ha : a.length ≤ 9223372036854775806) (hb : b.length ≤ 9223372036854775806) :
    Calls Try.prog 39 #[.string (str a), .string (str b)] w fun e w' => e = .returned (.int .i64 (comF a b : Nat)) ∧ Gr w w' := by
  go_enter Try.func39, Try.ntmps39
  go_wp2
  go_loopw [5] (fun v wr => ∃ n : Nat, n ≤ a.length ∧ n ≤ b.length ∧ v = .int .i64 (n : Int) ∧ Gr w wr ∧ comF a b = n + comF (a.drop n) (b.drop n)) (fun v _ => a.length - (intOf v).toNat)
  case atStart => exact ⟨0, Nat.zero_le _, Nat.zero_le _, rfl, Gr.refl _, by simp⟩
  case round =>
    obtain ⟨n, hn1, hn2, rfl, hg0, hc⟩ := hrel
    by_cases k1 : n < a.length
    · by_cases k2 : n < b.length
      · by_cases he : a[n]'k1 = b[n]'k2
        · have HC := Lib.hid (hc.trans (congrArg (n + ·) (comF_step k1 k2 he)))
          have hbe : (((a[n]'k1).toNat : Int) == ((b[n]'k2).toNat : Int)) = true := by rw [he]; simp
          clear hc he
          go_wp2
          refine region_any_gr _ [Is ?r0, Is ?r1, Is (.int .i64 (a.length : Int)), Is (.bool true), Is (.bool true), Is ?r5, Is ?r6, Is (.int .i64 (b.length : Int)), Is (.bool true), Is (.bool true), Is (.bool true), Is (.string (str a)), Is (.int .i64 (n : Int)), Is (.int .u8 ((a[n]'k1).toNat : Int)), Is (.string (str b)), Is (.int .i64 (n : Int)), Is (.int .u8 ((b[n]'k2).toNat : Int)), Is (.bool true), Is (.bool true)] (by kernel_rfl) (by kernel_rfl) (by kernel_rfl) rfl rfl ⟨Is.stable _, Is.stable _, Is.stable _, Is.stable _, Is.stable _, Is.stable _, Is.stable _, Is.stable _, Is.stable _, Is.stable _, Is.stable _, Is.stable _, Is.stable _, Is.stable _, Is.stable _, Is.stable _, Is.stable _, Is.stable _, Is.stable _, trivial⟩ ⟨?s0, ?s1, ?s2, ?s3, ?s4, ?s5, ?s6, ?s7, ?s8, ?s9, ?s10, ?s11, ?s12, ?s13, ?s14, ?s15, ?s16, ?s17, ?s18, trivial⟩ ?fin
          case' s0 | s1 | s2 | s3 | s4 | s5 | s6 | s7 | s8 | s9 | s10 | s11 | s12 | s13 | s14 | s15 | s16 | s17 | s18 =>
            intro ρ wr hρ hg hK
            simp [readsOf, slotsOf, Op.operands, Call.operands, tmpOf, List.filterMap_cons, List.filterMap_nil, KnownAll, knownOf, srcOf, depsOf, dstOf, Region.binds, nth, Is] at hK
            obtain ⟨hc, hf, hgl⟩ := hρ
            try simp only [wantedBy, dstOf, boolOf, nth, List.getD_cons_zero, List.getD_cons_succ, List.getElem?_cons_zero, List.getElem?_cons_succ, Option.bind_some, if_true, hK, BEq.rfl]
            try go_simp
            first | exact rfl | (rw [if_pos (by omega)]; exact is_here rfl) | (rw [dif_pos (by omega)]; exact is_here rfl) | exact congrArg (Value.int _) (IntWalk.i64_in _ ⟨by omega, by omega⟩) | skip
          case fin =>
            intro w1 val hg hH
            simp only [Holds, Is, Nat.zero_add, Nat.reduceAdd] at hH
            obtain ⟨h0, h1, h2, h3, h4, h5, h6, h7, h8, h9, h10, h11, h12, h13, h14, h15, h16, h17, h18, _⟩ := hH
            simp only [List.take_succ_cons, List.take_zero, List.drop_succ_cons, List.drop_zero, putAll, h0, h1, h2, h3, h4, h5, h6, h7, h8, h9, h10, h11, h12, h13, h14, h15, h16, h17, h18, Nat.zero_add, Nat.reduceAdd]
            go_simp
            go_wp2
            go_roundw
            case rel => exact ⟨n + 1, k1, k2, by go_num, hg0.trans hg, by rw [HC.out]; omega⟩
            case measure => simp [intOf]; omega
        · have HC := Lib.hid (show comF a b = n by rw [hc, comF_stop k1 k2 he]; rfl)
          have hbe : (((a[n]'k1).toNat : Int) == ((b[n]'k2).toNat : Int)) = false := by
            rw [beq_eq_false_iff_ne]; intro h; exact he (UInt8.toNat_inj.1 (by omega))
          clear hc he
          go_wp2
          refine region_any_gr _ [Is ?r0x1, Is ?r1x1, Is (.int .i64 (a.length : Int)), Is (.bool true), Is (.bool true), Is ?r5x1, Is ?r6x1, Is (.int .i64 (b.length : Int)), Is (.bool true), Is (.bool true), Is (.bool true), Is (.string (str a)), Is (.int .i64 (n : Int)), Is (.int .u8 ((a[n]'k1).toNat : Int)), Is (.string (str b)), Is (.int .i64 (n : Int)), Is (.int .u8 ((b[n]'k2).toNat : Int)), Is (.bool false), Is (.bool false)] (by kernel_rfl) (by kernel_rfl) (by kernel_rfl) rfl rfl ⟨Is.stable _, Is.stable _, Is.stable _, Is.stable _, Is.stable _, Is.stable _, Is.stable _, Is.stable _, Is.stable _, Is.stable _, Is.stable _, Is.stable _, Is.stable _, Is.stable _, Is.stable _, Is.stable _, Is.stable _, Is.stable _, Is.stable _, trivial⟩ ⟨?s0x1, ?s1x1, ?s2x1, ?s3x1, ?s4x1, ?s5x1, ?s6x1, ?s7x1, ?s8x1, ?s9x1, ?s10x1, ?s11x1, ?s12x1, ?s13x1, ?s14x1, ?s15x1, ?s16x1, ?s17x1, ?s18x1, trivial⟩ ?finx1
          case' s0x1 | s1x1 | s2x1 | s3x1 | s4x1 | s5x1 | s6x1 | s7x1 | s8x1 | s9x1 | s10x1 | s11x1 | s12x1 | s13x1 | s14x1 | s15x1 | s16x1 | s17x1 | s18x1 =>
            intro ρ wr hρ hg hK
            simp [readsOf, slotsOf, Op.operands, Call.operands, tmpOf, List.filterMap_cons, List.filterMap_nil, KnownAll, knownOf, srcOf, depsOf, dstOf, Region.binds, nth, Is] at hK
            obtain ⟨hc, hf, hgl⟩ := hρ
            try simp only [wantedBy, dstOf, boolOf, nth, List.getD_cons_zero, List.getD_cons_succ, List.getElem?_cons_zero, List.getElem?_cons_succ, Option.bind_some, if_true, hK, BEq.rfl]
            try go_simp
            first | exact rfl | (rw [if_pos (by omega)]; exact is_here rfl) | (rw [dif_pos (by omega)]; exact is_here rfl) | exact congrArg (Value.int _) (IntWalk.i64_in _ ⟨by omega, by omega⟩) | skip
          case finx1 =>
            intro w1 val hg hH
            simp only [Holds, Is, Nat.zero_add, Nat.reduceAdd] at hH
            obtain ⟨h0, h1, h2, h3, h4, h5, h6, h7, h8, h9, h10, h11, h12, h13, h14, h15, h16, h17, h18, _⟩ := hH
            simp only [List.take_succ_cons, List.take_zero, List.drop_succ_cons, List.drop_zero, putAll, h0, h1, h2, h3, h4, h5, h6, h7, h8, h9, h10, h11, h12, h13, h14, h15, h16, h17, h18, Nat.zero_add, Nat.reduceAdd]
            go_simp
            go_wp2
            go_ret
            exact ⟨by rw [HC.out]; rfl, hg0.trans hg⟩
      · have HC := Lib.hid (show comF a b = n by rw [hc, comF_end (by omega)]; rfl)
        clear hc
        go_wp2
        refine region_any_gr _ [Is ?r0x2, Is ?r1x2, Is (.int .i64 (a.length : Int)), Is (.bool true), Is (.bool true), Is ?r5x2, Is ?r6x2, Is (.int .i64 (b.length : Int)), Is (.bool false), Is (.bool false), Is (.bool false), Is (undef), Is (undef), Is (undef), Is (undef), Is (undef), Is (undef), Is (undef), Is (.bool false)] (by kernel_rfl) (by kernel_rfl) (by kernel_rfl) rfl rfl ⟨Is.stable _, Is.stable _, Is.stable _, Is.stable _, Is.stable _, Is.stable _, Is.stable _, Is.stable _, Is.stable _, Is.stable _, Is.stable _, Is.stable _, Is.stable _, Is.stable _, Is.stable _, Is.stable _, Is.stable _, Is.stable _, Is.stable _, trivial⟩ ⟨?s0x2, ?s1x2, ?s2x2, ?s3x2, ?s4x2, ?s5x2, ?s6x2, ?s7x2, ?s8x2, ?s9x2, ?s10x2, ?s11x2, ?s12x2, ?s13x2, ?s14x2, ?s15x2, ?s16x2, ?s17x2, ?s18x2, trivial⟩ ?finx2
        case' s0x2 | s1x2 | s2x2 | s3x2 | s4x2 | s5x2 | s6x2 | s7x2 | s8x2 | s9x2 | s10x2 | s11x2 | s12x2 | s13x2 | s14x2 | s15x2 | s16x2 | s17x2 | s18x2 =>
          intro ρ wr hρ hg hK
          simp [readsOf, slotsOf, Op.operands, Call.operands, tmpOf, List.filterMap_cons, List.filterMap_nil, KnownAll, knownOf, srcOf, depsOf, dstOf, Region.binds, nth, Is] at hK
          obtain ⟨hc, hf, hgl⟩ := hρ
          try simp only [wantedBy, dstOf, boolOf, nth, List.getD_cons_zero, List.getD_cons_succ, List.getElem?_cons_zero, List.getElem?_cons_succ, Option.bind_some, if_true, hK, BEq.rfl]
          try go_simp
          first | exact rfl | (rw [if_pos (by omega)]; exact is_here rfl) | (rw [dif_pos (by omega)]; exact is_here rfl) | exact congrArg (Value.int _) (IntWalk.i64_in _ ⟨by omega, by omega⟩) | skip
        case finx2 =>
          intro w1 val hg hH
          simp only [Holds, Is, Nat.zero_add, Nat.reduceAdd] at hH
          obtain ⟨h0, h1, h2, h3, h4, h5, h6, h7, h8, h9, h10, h11, h12, h13, h14, h15, h16, h17, h18, _⟩ := hH
          simp only [List.take_succ_cons, List.take_zero, List.drop_succ_cons, List.drop_zero, putAll, h0, h1, h2, h3, h4, h5, h6, h7, h8, h9, h10, h11, h12, h13, h14, h15, h16, h17, h18, Nat.zero_add, Nat.reduceAdd]
          go_simp
          go_wp2
          go_ret
          exact ⟨by rw [HC.out]; rfl, hg0.trans hg⟩
    · have HC := Lib.hid (show comF a b = n by rw [hc, comF_end (by omega)]; rfl)
      clear hc
      go_wp2
      refine region_any_gr _ [Is ?r0x3, Is ?r1x3, Is (.int .i64 (a.length : Int)), Is (.bool false), Is (.bool false), Is (undef), Is (undef), Is (undef), Is (undef), Is (.bool false), Is (.bool false), Is (undef), Is (undef), Is (undef), Is (undef), Is (undef), Is (undef), Is (undef), Is (.bool false)] (by kernel_rfl) (by kernel_rfl) (by kernel_rfl) rfl rfl ⟨Is.stable _, Is.stable _, Is.stable _, Is.stable _, Is.stable _, Is.stable _, Is.stable _, Is.stable _, Is.stable _, Is.stable _, Is.stable _, Is.stable _, Is.stable _, Is.stable _, Is.stable _, Is.stable _, Is.stable _, Is.stable _, Is.stable _, trivial⟩ ⟨?s0x3, ?s1x3, ?s2x3, ?s3x3, ?s4x3, ?s5x3, ?s6x3, ?s7x3, ?s8x3, ?s9x3, ?s10x3, ?s11x3, ?s12x3, ?s13x3, ?s14x3, ?s15x3, ?s16x3, ?s17x3, ?s18x3, trivial⟩ ?finx3
      case' s0x3 | s1x3 | s2x3 | s3x3 | s4x3 | s5x3 | s6x3 | s7x3 | s8x3 | s9x3 | s10x3 | s11x3 | s12x3 | s13x3 | s14x3 | s15x3 | s16x3 | s17x3 | s18x3 =>
        intro ρ wr hρ hg hK
        simp [readsOf, slotsOf, Op.operands, Call.operands, tmpOf, List.filterMap_cons, List.filterMap_nil, KnownAll, knownOf, srcOf, depsOf, dstOf, Region.binds, nth, Is] at hK
        obtain ⟨hc, hf, hgl⟩ := hρ
        try simp only [wantedBy, dstOf, boolOf, nth, List.getD_cons_zero, List.getD_cons_succ, List.getElem?_cons_zero, List.getElem?_cons_succ, Option.bind_some, if_true, hK, BEq.rfl]
        try go_simp
        first | exact rfl | (rw [if_pos (by omega)]; exact is_here rfl) | (rw [dif_pos (by omega)]; exact is_here rfl) | exact congrArg (Value.int _) (IntWalk.i64_in _ ⟨by omega, by omega⟩) | skip
      case finx3 =>
        intro w1 val hg hH
        simp only [Holds, Is, Nat.zero_add, Nat.reduceAdd] at hH
        obtain ⟨h0, h1, h2, h3, h4, h5, h6, h7, h8, h9, h10, h11, h12, h13, h14, h15, h16, h17, h18, _⟩ := hH
        simp only [List.take_succ_cons, List.take_zero, List.drop_succ_cons, List.drop_zero, putAll, h0, h1, h2, h3, h4, h5, h6, h7, h8, h9, h10, h11, h12, h13, h14, h15, h16, h17, h18, Nat.zero_add, Nat.reduceAdd]
        go_simp
        go_wp2
        go_ret
        exact ⟨by rw [HC.out]; rfl, hg0.trans hg⟩
theorem rfixed_at (X S : Int) (n k : Nat) (w : World) (hX : X = (n : Int)) (hS : S = (k : Int)) (hk : k ≤ 8) (hn : n < 256 ^ k) :
    Calls Try.prog 38 #[.int .i64 X, .int .i64 S] w fun e w' => e = .returned (.string (str (Varint.bytesN k n))) ∧ Gr w w' := by
  subst hX hS
  have h8 : 256 ^ k ≤ 256 ^ 8 := Nat.pow_le_pow_right (by decide) hk
  have hn9 : n < 18446744073709551616 := by omega
  have h := fun w => rFixed_any n (k : Int) w hn9 (by omega) (by omega)
  have e : Varint.fixedF n (k : Int) = (Varint.bytesN k n, 0) := by
    unfold Varint.fixedF
    rw [if_neg (by omega), if_neg (by rw [Int.toNat_natCast]; exact fun h => h (Nat.div_eq_of_lt hn))]
    rfl
  rw [e] at h
  have H := Lib.hid h
  clear h h8 hn e
  go_enter Try.func38, Try.ntmps38
  go_wp2_with (go_at_call 55; refine (H.out _).mono ?_; rintro e w1 ⟨rfl, g1⟩)
  go_ret
  exact ⟨rfl, g1⟩
end Go.Proofs.Ytnbinodhdgnjlaa
