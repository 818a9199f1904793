/- Layer 3 (varint): numbers of a fixed size. -/
import Derived.Test.YtmbjihjcblklmaaVarintMore
namespace Go.Proofs.Ytmbjihjcblklmaa
set_option linter.unusedVariables false
set_option linter.unusedSimpArgs false
open Go.RowKit Varint
/-- what hands back bytes of its own, and an error's number -/
def RetBE (e : TypeId) (w : World) (l : List UInt8) (n : Nat) : Ending → World → Prop := fun x w' =>
  ∃ ad cap, x = .returned (.tuple #[.slice ad l.length cap, .int .i64 n]) ∧ Owns w' w.heap.size e 1 ad cap l.length (bv l) ∧ Gr w w'
set_option maxRecDepth 100000 in
set_option maxHeartbeats 1000000 in
theorem Fixed_any (n : Nat) (s : Int) (w : World) (hn : n < 18446744073709551616) (h1 : -9223372036854775808 ≤ s) (h2 : s ≤ 9223372036854775807) :
    Calls Try.prog 24 #[.int .u64 n, .int .i64 s] w (RetBE 5 w (fixedF n s).1 (fixedF n s).2) := by
  by_cases hs : s < 0 ∨ 8 < s
  · have H := Lib.hid (show fixedF n s = ([], 1) by unfold fixedF; rw [if_pos hs])
    rcases hs with hs | hs
    all_goals
      go_enter Try.func24, Try.ntmps24
      go_wp2
      go_ret2
      refine ⟨none, 0, ?_, ?_, Gr.refl _⟩
      · rw [H.out]; rfl
      · rw [H.out]; exact Owns.empty _ _ _ _
  · obtain ⟨k, rfl⟩ := Int.eq_ofNat_of_zero_le (show 0 ≤ s by omega)
    have hk : k ≤ 8 := by omega
    clear hs h1 h2
    have HP := Lib.hid (show (n : Int) / 2 ^ (8 * k) = ((n / 256 ^ k : Nat) : Int) by rw [pow256]; simp)
    by_cases hb : n / 256 ^ k = 0
    · have H := Lib.hid (show fixedF n k = (bytesN k n, 0) by unfold fixedF; rw [if_neg (by omega), if_neg (by simpa using hb)]; rfl)
      have hq : ((n : Int) / 2 ^ (8 * k) != 0) = false := by rw [HP.out, hb]; rfl
      have HB := Lib.hid hb; clear hb
      by_cases hk8 : k < 8
      all_goals
        go_enter Try.func24, Try.ntmps24
        go_wp2
        go_loopw [0, 6, 25] (fun v b i wr => ∃ (j : Nat) (ad : Option Addr) (cap : Nat), j ≤ k ∧ i = .int .i64 j ∧ v = .int .u64 ((n / 256 ^ j : Nat) : Int) ∧ b = .slice ad j cap ∧ Owns wr w.heap.size 5 1 ad cap j (bv (bytesN j n)) ∧ Gr w wr) (fun _ _ i _ => k - (intOf i).toNat)
        case atStart => exact ⟨0, none, 0, Nat.zero_le _, rfl, by simp, rfl, Owns.empty _ _ _ _, Gr.refl _⟩
        case round =>
          obtain ⟨j, ad, cap, hj, rfl, rfl, rfl, ho, hg⟩ := hrel
          have hs := hg.size
          by_cases hlt : j < k
          · generalize hc : n / 256 ^ j = cur at *
            have hb : cur < 18446744073709551616 := by rw [← hc]; exact Nat.lt_of_le_of_lt (Nat.div_le_self _ _) hn
            have HC := Lib.hid hc; clear hc
            have HX := Lib.hid (show (cur : Int) % 256 = ((UInt8.ofNat cur).toNat : Int) by rw [UInt8.toNat_ofNat']; omega)
            go_wp2_with (at_builtin; refine wp_append elemB rfl _ _ rfl rfl (ho.gr (Gr.alloc _ _)) rfl (Src.one _ _ (UInt8.ofNat cur) HX.out Try.underlying23) (by unfold maxLen; omega) (by omega) (by simp; omega) ?_; intro ad2 cap2 w2 o2 k2 f2)
            go_roundw
            case rel =>
              refine ⟨j + 1, ad2, cap2, by omega, by go_num, ?_, rfl, ?_, hg.app ho (Nat.le_refl _) k2⟩
              · rw [Nat.pow_succ, ← Nat.div_div_eq_div_mul, HC.out]; go_num
              · rw [bytesN_snoc, bv_append, HC.out]; exact o2
            case measure => simp [intOf]; omega
          · obtain rfl : j = k := by omega
            go_wp2
            go_ret2
            refine ⟨ad, cap, ?_, ?_, hg⟩
            · rw [H.out]; simp only [bytesN_len]; rfl
            · rw [H.out]; simp only [bytesN_len]; exact ho
    · have hk8 : k < 8 := by
        rcases Nat.lt_or_ge k 8 with h | h
        · exact h
        · have : k = 8 := by omega
          subst this
          exact absurd (Nat.div_eq_of_lt (by omega)) hb
      have H := Lib.hid (show fixedF n k = ([], 14) by unfold fixedF; rw [if_neg (by omega), if_pos (by simpa using hb)])
      have hq : ((n : Int) / 2 ^ (8 * k) != 0) = true := by rw [HP.out, bne_iff_ne]; omega
      clear hb
      go_enter Try.func24, Try.ntmps24
      go_wp2
      go_ret2
      refine ⟨none, 0, ?_, ?_, Gr.refl _⟩
      · rw [H.out]; rfl
      · rw [H.out]; exact Owns.empty _ _ _ _
set_option maxRecDepth 100000 in
set_option maxHeartbeats 1000000 in
theorem rFixed_any (n : Nat) (s : Int) (w : World) (hn : n < 18446744073709551616) (h1 : -9223372036854775808 ≤ s) (h2 : s ≤ 9223372036854775807) :
    Calls Try.prog 23 #[.int .u64 n, .int .i64 s] w fun e w' => e = .returned (.tuple #[.string (str (fixedF n s).1), .int .i64 (fixedF n s).2]) ∧ Gr w w' := by
  by_cases hs : s < 0 ∨ 8 < s
  · have H := Lib.hid (show fixedF n s = ([], 1) by unfold fixedF; rw [if_pos hs])
    rcases hs with hs | hs
    all_goals
      go_enter Try.func23, Try.ntmps23
      go_wp2
      go_ret2
      exact ⟨by rw [H.out]; rfl, Gr.refl _⟩
  · obtain ⟨k, rfl⟩ := Int.eq_ofNat_of_zero_le (show 0 ≤ s by omega)
    have hk : k ≤ 8 := by omega
    clear hs h1 h2
    go_enter Try.func23, Try.ntmps23
    go_wp2
    go_loopw [0, 6, 7] (fun v b i wr => ∃ (j : Nat) (ad : Option Addr) (cap : Nat), j ≤ k ∧ i = .int .i64 j ∧ v = .int .u64 ((n / 256 ^ j : Nat) : Int) ∧ b = .slice ad j cap ∧ Owns wr w.heap.size 5 1 ad cap j (bv (bytesN j n)) ∧ Gr w wr) (fun _ _ i _ => k - (intOf i).toNat)
    case atStart => exact ⟨0, none, 0, Nat.zero_le _, rfl, by simp, rfl, Owns.empty _ _ _ _, Gr.refl _⟩
    case round =>
      obtain ⟨j, ad, cap, hj, rfl, rfl, rfl, ho, hg⟩ := hrel
      have hs := hg.size
      by_cases hlt : j < k
      · generalize hc : n / 256 ^ j = cur at *
        have hb : cur < 18446744073709551616 := by rw [← hc]; exact Nat.lt_of_le_of_lt (Nat.div_le_self _ _) hn
        have HC := Lib.hid hc; clear hc
        have HX := Lib.hid (show (cur : Int) % 256 = ((UInt8.ofNat cur).toNat : Int) by rw [UInt8.toNat_ofNat']; omega)
        go_wp2_with (at_builtin; refine wp_append elemB rfl _ _ rfl rfl (ho.gr (Gr.alloc _ _)) rfl (Src.one _ _ (UInt8.ofNat cur) HX.out Try.underlying23) (by unfold maxLen; omega) (by omega) (by simp; omega) ?_; intro ad2 cap2 w2 o2 k2 f2)
        go_roundw
        case rel =>
          refine ⟨j + 1, ad2, cap2, by omega, by go_num, ?_, rfl, ?_, hg.app ho (Nat.le_refl _) k2⟩
          · rw [Nat.pow_succ, ← Nat.div_div_eq_div_mul, HC.out]; go_num
          · rw [bytesN_snoc, bv_append, HC.out]; exact o2
        case measure => simp [intOf]; omega
      · obtain rfl : j = k := by omega
        have HS := run_string (P := Try.prog) Try.underlying23 Try.underlying5 Try.underlying9 (cap := cap) (bytesN_len j n) ho.bytes
        by_cases hb : n / 256 ^ j = 0
        · have H := Lib.hid (show fixedF n j = (bytesN j n, 0) by unfold fixedF; rw [if_neg (by omega), if_neg (by simpa using hb)]; rfl)
          have hq : ((n : Int) / 256 ^ j != 0) = false := by rw [show (n : Int) / 256 ^ j = ((n / 256 ^ j : Nat) : Int) by simp, hb]; rfl
          have HB := Lib.hid hb; clear hb
          go_wp2
          go_ret2
          exact ⟨by rw [H.out]; rfl, hg⟩
        · have H := Lib.hid (show fixedF n j = ([], 14) by unfold fixedF; rw [if_neg (by omega), if_pos (by simpa using hb)])
          have hq : ((n : Int) / 256 ^ j != 0) = true := by rw [show (n : Int) / 256 ^ j = ((n / 256 ^ j : Nat) : Int) by simp, bne_iff_ne]; omega
          clear hb
          go_wp2
          go_ret2
          exact ⟨by rw [H.out]; rfl, hg⟩
set_option maxRecDepth 100000 in
set_option maxHeartbeats 1000000 in
theorem rWhole_any (t : ByteArray) (w : World) (hm : t.size ≤ maxLen) :
    Calls Try.prog 25 #[.string t] w fun e w' => e = .returned (.tuple #[.int .u64 (wholeF t.data.toList).1, .int .i64 (wholeF t.data.toList).2]) ∧ w = w' := by
  unfold maxLen at hm
  have hsz : t.data.toList.length = t.size := by simp
  by_cases h8 : 8 < t.size
  · have H := Lib.hid (show wholeF t.data.toList = (0, 1) by unfold wholeF; rw [if_pos (by omega)])
    clear hsz
    go_enter Try.func25, Try.ntmps25
    go_wp2
    go_ret2
    exact ⟨by rw [H.out]; rfl, rfl⟩
  · have H := Lib.hid (show wholeF t.data.toList = (le t.data.toList, 0) by unfold wholeF; rw [if_neg (by omega)])
    have HZ := Lib.hid hsz; clear hsz
    go_enter Try.func25, Try.ntmps25
    go_wp2
    go_loop [4, 5] (fun v i => ∃ k : Nat, k ≤ t.size ∧ i = .int .i64 ((k : Int) - 1) ∧ v = .int .u64 (le (t.data.toList.drop k))) (fun _ i => (intOf i + 1).toNat)
    case atStart => exact ⟨t.size, Nat.le_refl _, rfl, by rw [List.drop_of_length_le (by rw [HZ.out]; exact Nat.le_refl _)]; rfl⟩
    case round =>
      obtain ⟨k, hk, rfl, rfl⟩ := hrel
      by_cases hlt : 0 < k
      · obtain ⟨j, rfl⟩ : ∃ j, k = j + 1 := ⟨k - 1, by omega⟩
        have hj : j < t.size := by omega
        have e1 : ((j + 1 : Nat) : Int) - 1 = (j : Int) := by omega
        have hx := byte_hi t[j]
        have hd := Lib.hid (show le (t.data.toList.drop j) = t[j].toNat + 256 * le (t.data.toList.drop (j + 1)) by
          rw [List.drop_eq_getElem_cons (by rw [HZ.out]; exact hj)]; rfl)
        have hlim : le (t.data.toList.drop (j + 1)) < 72057594037927936 := by
          have h1 := le_lt (t.data.toList.drop (j + 1))
          have h2 : 256 ^ (t.data.toList.drop (j + 1)).length ≤ 256 ^ 7 := Nat.pow_le_pow_right (by decide) (by rw [List.length_drop, HZ.out]; omega)
          omega
        generalize hV : le (t.data.toList.drop (j + 1)) = V at *
        have HV := Lib.hid hV; clear hV
        simp only [e1]
        clear e1
        go_wp2
        go_round
        case rel => exact ⟨j, by omega, rfl, by rw [hd.out]; go_num⟩
        case measure => simp [intOf]
      · obtain rfl : k = 0 := by omega
        go_wp2
        go_ret2
        exact ⟨by rw [H.out]; rfl, rfl⟩
end Go.Proofs.Ytmbjihjcblklmaa
