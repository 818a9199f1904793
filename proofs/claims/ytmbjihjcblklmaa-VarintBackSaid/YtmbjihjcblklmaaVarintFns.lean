/- Layer 3 (varint): what each function computes. -/
import Derived.Test.YtmbjihjcblklmaaRows
import Derived.Test.YtmbjihjcblklmaaMem
import Derived.Test.YtmbjihjcblklmaaVarintMath
namespace Go.Proofs.Ytmbjihjcblklmaa
set_option linter.unusedVariables false
set_option linter.unusedSimpArgs false
open Go.RowKit Varint
theorem elemB : Elem Try.prog 23 5 (.int .u8 0) 1 1 := ⟨by kernel_rfl, by kernel_rfl, rfl, by decide⟩
set_option maxRecDepth 100000 in
set_option maxHeartbeats 1000000 in
theorem Put_any (n : Nat) (w : World) (hn : n < 18446744073709551616) : Calls Try.prog 10 #[.int .u64 n] w (RetB 5 w (putF n)) := by
  go_enter Try.func10, Try.ntmps10
  go_wp2
  go_loopw [0, 3] (fun v b wr => ∃ k acc cur, ∃ ad cap, v = .int .u64 (cur : Nat) ∧ cur < 2 * 128 ^ k ∧ k ≤ 9 ∧ putF n = acc ++ putN k cur ∧ acc.length ≤ 9 - k ∧ b = .slice ad acc.length cap ∧ Owns wr w.heap.size 5 1 ad cap acc.length (bv acc) ∧ Gr w wr) (fun v _ _ => (intOf v).toNat)
  case atStart => exact ⟨9, [], n, none, 0, rfl, by simpa using hn, Nat.le_refl _, rfl, by simp, rfl, Owns.empty _ _ _ _, Gr.refl _⟩
  case round =>
    obtain ⟨k, acc, cur, ad, cap, rfl, hc, hk, hp, hal, rfl, ho, hg⟩ := hrel
    have HP := Lib.hid hp; clear hp
    have hpw : 128 ^ k ≤ 128 ^ 9 := Nat.pow_le_pow_right (by decide) hk
    have hb : cur < 18446744073709551616 := by omega
    have HC := Lib.hid hc; clear hc hpw
    have hs := hg.size
    have hm1 : acc.length + 1 ≤ maxLen := by unfold maxLen; omega
    have hm2 : (acc.length + 1) * 1 ≤ 140737488355328 := by omega
    by_cases hlt : cur < 128
    · have HX := Lib.hid (show (cur : Int) = ((UInt8.ofNat cur).toNat : Int) by rw [UInt8.toNat_ofNat']; omega)
      go_wp2_with (at_builtin; refine wp_append elemB rfl _ _ rfl rfl (ho.gr (Gr.alloc _ _)) rfl (Src.one _ _ (UInt8.ofNat cur) HX.out Try.underlying23) hm1 hm2 (by simp; omega) ?_; intro ad2 cap2 w2 o2 k2 f2)
      go_ret
      have e : putF n = acc ++ [UInt8.ofNat cur] := by rw [HP.out, putN_small hlt]
      refine ⟨ad2, cap2, by rw [e]; simp, ?_, hg.app ho (Nat.le_refl _) k2⟩
      rw [e, bv_append]
      simpa using o2
    · have HX := Lib.hid (b8_more cur)
      go_wp2_with (at_builtin; refine wp_append elemB rfl _ _ rfl rfl (ho.gr (Gr.alloc _ _)) rfl (Src.one _ _ (UInt8.ofNat (cur % 128 + 128)) HX.out Try.underlying23) hm1 hm2 (by simp; omega) ?_; intro ad2 cap2 w2 o2 k2 f2)
      obtain ⟨k', rfl⟩ : ∃ k', k = k' + 1 := ⟨k - 1, by
        have := HC.out
        cases k with
        | zero => simp at this; omega
        | succ k => rfl⟩
      have hc : cur < 2 * 128 ^ (k' + 1) := HC.out
      rw [Nat.pow_succ] at hc
      go_roundw
      case rel =>
        refine ⟨k', acc ++ [UInt8.ofNat (cur % 128 + 128)], cur / 128, ad2, cap2, by go_num, by omega, by omega, by rw [HP.out, putN_big hlt]; simp, by simp; omega, by simp, ?_, hg.app ho (Nat.le_refl _) k2⟩
        rw [bv_append]
        simpa using o2
      case measure => simp [intOf]; omega
set_option maxRecDepth 100000 in
set_option maxHeartbeats 1000000 in
theorem Get_any (ad : Option Addr) (len cap : Nat) (l : List UInt8) (w : World) (hl : l.length = len) (hm : len ≤ maxLen) (hb : Bytes w ad l) :
    Calls Try.prog 18 #[.slice ad len cap] w fun e w' => e = .returned (.tuple #[.int .u64 (getF l).1, .int .i64 (getF l).2.1, .int .i64 (getF l).2.2]) ∧ w = w' := by
  subst hl
  unfold maxLen at hm
  go_enter Try.func18, Try.ntmps18
  go_wp2
  go_loop [5, 6, 7, 10] (fun v _ _ i => ∃ (k : Nat) (m : Int), k ≤ l.length ∧ k ≤ 10 ∧ i = .int .i64 k ∧ v = .int .u64 m ∧ (k ≤ 9 → m = val (l.take k)) ∧ getF l = getAt l (10 - k) k) (fun _ _ _ i => l.length - (intOf i).toNat)
  case atStart => exact ⟨0, 0, Nat.zero_le _, by omega, rfl, rfl, fun _ => by simp [val], rfl⟩
  case round =>
    obtain ⟨k, m, hk, hk10, rfl, rfl, hv, hg⟩ := hrel
    have HG := Lib.hid hg; clear hg
    have HV := Lib.hid hv; clear hv
    by_cases hlt : k < l.length
    · obtain ⟨b, off, rfl, hc⟩ := hb k hlt
      have hx := byte_hi l[k]
      by_cases h10 : k = 10
      · subst h10
        have HR := Lib.hid (show getF l = (0, 0, 2) by rw [HG.out]; simp only [Nat.sub_self, getAt, short]; rw [if_neg (by omega)])
        go_wp2
        go_ret3
        exact ⟨ret3_of HR.out rfl rfl rfl, rfl⟩
      · obtain ⟨f, hf⟩ : ∃ f, 10 - k = f + 1 := ⟨9 - k, by omega⟩
        have HF := Lib.hid hf; clear hf
        have b10 : ((k : Int) == 10) = false := by rw [beq_eq_false_iff_ne]; omega
        obtain ⟨t1, t2⟩ := take_u64 l k (by omega) (by omega)
        have HM := Lib.hid (HV.out (by omega))
        by_cases hxs : l[k].toNat < 128
        · have HE := Lib.hid (show getF l = endAt l k l[k].toNat by rw [HG.out, HF.out, getAt_end hlt hxs])
          by_cases h9 : k = 9
          · have b9 : ((k : Int) == 9) = true := by rw [beq_iff_eq]; omega
            by_cases hx1 : 1 < l[k].toNat
            · have HR := Lib.hid (HE.out.trans (endAt_bad (.inl ⟨h9, hx1⟩)))
              have bd : decide ((1 : Int) < l[k].toNat) = true := by simp; omega
              clear h9
              go_wp2
              go_ret3
              exact ⟨ret3_of HR.out rfl rfl rfl, rfl⟩
            · have bd : decide ((1 : Int) < l[k].toNat) = false := by simp; omega
              have hk0 : 0 < k := by omega
              by_cases hx0 : l[k].toNat = 0
              · have HR := Lib.hid (HE.out.trans (endAt_bad (.inr ⟨by omega, hx0⟩)))
                have b0 : ((l[k].toNat : Int) == 0) = true := by rw [beq_iff_eq]; omega
                clear h9 hx0
                go_wp2
                go_ret3
                exact ⟨ret3_of HR.out rfl rfl rfl, rfl⟩
              · have HR := Lib.hid (HE.out.trans (endAt_good (by omega)))
                have b0 : ((l[k].toNat : Int) == 0) = false := by rw [beq_eq_false_iff_ne]; omega
                have HO := Lib.hid (u64_shl_or (val (l.take k)) l[k].toNat (7 * k) t2 (fits k _ (by omega) hxs (by omega)) t1)
                have HO2 := Lib.hid (show val (l.take (k + 1)) = val (l.take k) + l[k].toNat * 2 ^ (7 * k) by rw [val_take_succ l k hlt, Nat.mod_eq_of_lt hxs, pow128])
                clear h9 hx0
                go_wp2
                go_ret3
                exact ⟨ret3_of HR.out (by rw [HM.out, HO.out, HO2.out]) (by omega) rfl, rfl⟩
          · have b9 : ((k : Int) == 9) = false := by rw [beq_eq_false_iff_ne]; omega
            by_cases hk0 : 0 < k
            · by_cases hx0 : l[k].toNat = 0
              · have HR := Lib.hid (HE.out.trans (endAt_bad (.inr ⟨hk0, hx0⟩)))
                have b0 : ((l[k].toNat : Int) == 0) = true := by rw [beq_iff_eq]; omega
                clear hx0
                go_wp2
                go_ret3
                exact ⟨ret3_of HR.out rfl rfl rfl, rfl⟩
              · have HR := Lib.hid (HE.out.trans (endAt_good (by omega)))
                have HO := Lib.hid (u64_shl_or (val (l.take k)) l[k].toNat (7 * k) t2 (fits k _ (by omega) hxs (by omega)) t1)
                have HO2 := Lib.hid (show val (l.take (k + 1)) = val (l.take k) + l[k].toNat * 2 ^ (7 * k) by rw [val_take_succ l k hlt, Nat.mod_eq_of_lt hxs, pow128])
                have b0 : ((l[k].toNat : Int) == 0) = false := by rw [beq_eq_false_iff_ne]; omega
                clear hx0
                go_wp2
                go_ret3
                exact ⟨ret3_of HR.out (by rw [HM.out, HO.out, HO2.out]) (by omega) rfl, rfl⟩
            · have HR := Lib.hid (HE.out.trans (endAt_good (by omega)))
              have HO := Lib.hid (u64_shl_or (val (l.take k)) l[k].toNat (7 * k) t2 (fits k _ (by omega) hxs (by omega)) t1)
              have HO2 := Lib.hid (show val (l.take (k + 1)) = val (l.take k) + l[k].toNat * 2 ^ (7 * k) by rw [val_take_succ l k hlt, Nat.mod_eq_of_lt hxs, pow128])
              go_wp2
              go_ret3
              exact ⟨ret3_of HR.out (by rw [HM.out, HO.out, HO2.out]) (by omega) rfl, rfl⟩
        · go_wp2
          go_round
          case rel =>
            refine ⟨k + 1, _, by omega, by omega, by go_num, rfl, ?_, ?_⟩
            · intro h
              rw [HM.out, b8_less, u64_wrap_nat _ (by omega), u64_shl_or _ _ (7 * k) t2 (fits k _ (by omega) (by omega) (by omega)) t1, val_take_succ l k hlt, pow128]
            · rw [HG.out, HF.out, getAt_on hlt hxs]
              have := HF.out
              congr 1
              omega
          case measure => simp [intOf]; omega
    · have hR := Lib.hid (show getF l = short l by rw [HG.out, getAt_none (by omega)])
      by_cases h10 : l.length < 10
      · have HR := Lib.hid (show getF l = (0, 0, 9) by rw [hR.out, short, if_pos h10])
        go_wp2
        go_ret3
        exact ⟨ret3_of HR.out rfl rfl rfl, rfl⟩
      · have HR := Lib.hid (show getF l = (0, 0, 2) by rw [hR.out, short, if_neg h10])
        go_wp2
        go_ret3
        exact ⟨ret3_of HR.out rfl rfl rfl, rfl⟩
end Go.Proofs.Ytmbjihjcblklmaa
