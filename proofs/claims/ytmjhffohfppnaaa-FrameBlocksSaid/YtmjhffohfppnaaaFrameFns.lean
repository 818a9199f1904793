/- Layer 8 (frame): what the functions below it compute: sums, masks, numbers of a fixed size. -/
import Derived.Test.YtmjhffohfppnaaaRows
import Derived.Test.YtmjhffohfppnaaaMem
import Derived.Test.YtmjhffohfppnaaaCrcMath
import Derived.Test.YtmjhffohfppnaaaVarintMath
import Derived.Test.YtmjhffohfppnaaaBlk
namespace Go.Proofs.Ytmjhffohfppnaaa
set_option linter.unusedVariables false
set_option linter.unusedSimpArgs false
open Go.RowKit
theorem elemB : Elem Try.prog 22 5 (.int .u8 0) 1 1 := ⟨by kernel_rfl, by kernel_rfl, rfl, by decide⟩
section
open Crc
theorem step_any (r : BitVec 32) (w : World) : Calls Try.prog 37 #[.int .u32 (U r)] w fun e w' => e = .returned (.int .u32 (U (stepF r))) ∧ w = w' := by
  have h0 := U_lo r
  have h1 := U_hi r
  go_enter Try.func37, Try.ntmps37
  go_wp2
  go_ret
  refine ⟨ret_int ?_, rfl⟩
  have e3 : U r / 2 = _ := U_shr r 2 1 rfl
  rw [U_andc r 1 1 rfl (by decide), U_neg, U_andc _ 2197175160 2197175160 rfl (by decide), e3, U_xor]
  rfl
set_option maxRecDepth 100000 in
set_option maxHeartbeats 400000 in
theorem more_any (s : BitVec 32) (ad : Option Addr) (len cap : Nat) (l : List UInt8) (w : World) (hlen : l.length = len) (hm : len ≤ maxLen)
   (hc : Bytes w ad l) : 
    Calls Try.prog 33 #[.int .u32 (U s), .slice ad len cap] w fun e w' => e = .returned (.int .u32 (U (moreF s l))) ∧ w = w' := by
  have h0 := U_lo s
  have h1 := U_hi s
  have h2 := U_not s
  unfold maxLen at hm
  subst hlen
  go_enter Try.func33, Try.ntmps33
  go_wp2
  go_loop [5, 7, 12] (fun r _ i => ∃ k : Nat, k ≤ l.length ∧ i = .int .i64 k ∧ r = .int .u32 (U (foldF (~~~ s) (l.take k)))) (fun _ _ i => l.length - (intOf i).toNat)
  case atStart => 
    exact ⟨0, Nat.zero_le _, rfl, by rw [List.take_zero]; rfl⟩
  case round =>
    obtain ⟨k, hk, rfl, rfl⟩ := hrel
    by_cases hlt : k < l.length
    · obtain ⟨b, off, rfl, hcell⟩ := hc k hlt
      have hB1 := byte_hi l[k]
      have hx := U_xorB (foldF (~~~ s) (l.take k)) l[k]
      generalize hR : foldF (~~~ s) (l.take k) = R at *
      have HR := Lib.hid hR; clear hR
      go_wp2
      go_loop [5, 20] (fun r i => ∃ j : Nat, j ≤ 8 ∧ i = .int .i64 j ∧ r = .int .u32 (U (iterF j (R ^^^ BitVec.ofNat 32 l[k].toNat)))) (fun _ i => 8 - (intOf i).toNat)
      case atStart => exact ⟨0, by omega, rfl, by first | rw [iterF] | rw [bitsF]⟩
      case round =>
        obtain ⟨j, hj, rfl, rfl⟩ := hrel
        by_cases hj8 : j < 8
        · go_wp2_with (go_at_call 37; refine (step_any _ _).mono ?_; rintro e w' ⟨rfl, rfl⟩)
          go_round
          case rel => exact ⟨j + 1, by omega, by go_num, by rw [iterF_succ']⟩
          case measure => simp [intOf]; omega
        · obtain rfl : j = 8 := by omega
          go_wp2
          go_round
          case rel => exact ⟨k + 1, by omega, by go_num, by rw [List.take_succ_eq_append_getElem hlt, foldF_snoc, HR.out]; rfl⟩
          case measure => simp [intOf]; omega
    · obtain rfl : k = l.length := by omega
      have h3 := U_not (foldF (~~~ s) l)
      go_wp2
      go_ret
      exact ⟨rfl, rfl⟩
theorem sum_any (ad : Option Addr) (len cap : Nat) (l : List UInt8) (w : World) (hlen : l.length = len) (hm : len ≤ maxLen)
   (hc : Bytes w ad l) : 
    Calls Try.prog 34 #[.slice ad len cap] w fun e w' => e = .returned (.int .u32 (U (sumF l))) ∧ w = w' := by
  have hz : (0 : Int) = U 0#32 := U_lit 0 rfl (by decide)
  have HZ := Lib.hid hz; clear hz
  go_enter Try.func34, Try.ntmps34
  go_wp2_with (go_at_call 33; rw [HZ.out]; refine (more_any _ _ _ _ l _ hlen hm hc).mono ?_; rintro e w' ⟨rfl, rfl⟩)
  go_ret
  exact ⟨rfl, rfl⟩
theorem rstep_any (r b : BitVec 32) (w : World) : Calls Try.prog 38 #[.int .u32 (U r), .int .u32 (U b)] w fun e w' => e = .returned (.int .u32 (U (bitF r b))) ∧ w = w' := by
  have h0 := U_lo r
  have h1 := U_hi r
  have hx := U_xor r b
  have h2 := U_lo (r ^^^ b)
  have hs := U_shr r 2 1 rfl
  have hxc := U_xorc (r >>> 1) 2197175160 2197175160 rfl (by decide)
  have hb := Lib.hid (show bitF r b = if (r ^^^ b).toNat % 2 = 1 then (r >>> 1) ^^^ 0x82F63B78#32 else r >>> 1 from rfl)
  have hu := Lib.hid (show U (r ^^^ b) % 2 = (((r ^^^ b).toNat % 2 : Nat) : Int) by unfold U; omega)
  by_cases hc : (r ^^^ b).toNat % 2 = 1
  · have hd : (U (r ^^^ b) % 2 == 1) = true := by rw [hu.out, hc]; rfl
    rw [hb.out, if_pos hc]
    have HC := Lib.hid hc; clear hc
    go_enter Try.func38, Try.ntmps38
    go_wp2
    go_ret
    exact ⟨rfl, rfl⟩
  · have hd : (U (r ^^^ b) % 2 == 1) = false := by rw [hu.out, beq_eq_false_iff_ne]; omega
    rw [hb.out, if_neg hc]
    have HC := Lib.hid hc; clear hc
    go_enter Try.func38, Try.ntmps38
    go_wp2
    go_ret
    exact ⟨ret_int hs, rfl⟩
set_option maxRecDepth 100000 in
set_option maxHeartbeats 400000 in
theorem rmore_any (s : BitVec 32) (t : ByteArray) (w : World) (hm : t.size ≤ maxLen) :
    Calls Try.prog 35 #[.int .u32 (U s), .string t] w fun e w' => e = .returned (.int .u32 (U (moreF s t.data.toList))) ∧ w = w' := by
  have h0 := U_lo s
  have h1 := U_hi s
  have h2 := U_not s
  unfold maxLen at hm
  go_enter Try.func35, Try.ntmps35
  go_wp2
  go_loop [5, 6, 7] (fun r i _ => ∃ k : Nat, k ≤ t.size ∧ i = .int .i64 k ∧ r = .int .u32 (U (foldF (~~~ s) (t.data.toList.take k)))) (fun _ i _ => t.size - (intOf i).toNat)
  case atStart => 
    exact ⟨0, Nat.zero_le _, rfl, by rw [List.take_zero]; rfl⟩
  case round =>
    obtain ⟨k, hk, rfl, rfl⟩ := hrel
    by_cases hlt : k < t.size
    · generalize hR : foldF (~~~ s) (t.data.toList.take k) = R at *
      have HR := Lib.hid hR; clear hR
      have hB1 := byte_hi t[k]
      have hbb := U_byte_bit t[k]
      go_wp2
      go_loop [5, 7] (fun r i => ∃ j : Nat, j ≤ 8 ∧ i = .int .i64 j ∧ r = .int .u32 (U (bitsF j R (BitVec.ofNat 32 t[k].toNat)))) (fun _ i => 8 - (intOf i).toNat)
      case atStart => exact ⟨0, by omega, rfl, by first | rw [iterF] | rw [bitsF]⟩
      case round =>
        obtain ⟨j, hj, rfl, rfl⟩ := hrel
        by_cases hj8 : j < 8
        · go_wp2_with (go_at_call 38; refine (rstep_any _ _ _).mono ?_; rintro e w' ⟨rfl, rfl⟩)
          go_round
          case rel => exact ⟨j + 1, by omega, by go_num, by rw [bitsF_snoc]⟩
          case measure => simp [intOf]; omega
        · obtain rfl : j = 8 := by omega
          go_wp2
          go_round
          case rel => exact ⟨k + 1, by omega, by go_num, by rw [bitsF_byte, List.take_succ_eq_append_getElem (by simpa using hlt), foldF_snoc, HR.out]; rfl⟩
          case measure => simp [intOf]; omega
    · obtain rfl : k = t.size := by omega
      have h3 := U_not (foldF (~~~ s) t.data.toList)
      have h4 : t.data.toList.take t.size = t.data.toList := List.take_of_length_le (by simp)
      go_wp2
      go_ret
      exact ⟨rfl, rfl⟩
theorem rsum_any (t : ByteArray) (w : World) (hm : t.size ≤ maxLen) : 
    Calls Try.prog 31 #[.string t] w fun e w' => e = .returned (.int .u32 (U (sumF t.data.toList))) ∧ w = w' := by
  have hz : (0 : Int) = U 0#32 := U_lit 0 rfl (by decide)
  have HZ := Lib.hid hz; clear hz
  go_enter Try.func31, Try.ntmps31
  go_wp2_with (go_at_call 35; rw [HZ.out]; refine (rmore_any _ _ _ hm).mono ?_; rintro e w' ⟨rfl, rfl⟩)
  go_ret
  exact ⟨rfl, rfl⟩
theorem mask_any (x : BitVec 32) (w : World) : Calls Try.prog 32 #[.int .u32 (U x)] w fun e w' => e = .returned (.int .u32 (U (maskF x))) ∧ w = w' := by
  have h0 := U_lo x
  have h1 := U_hi x
  have e1 : bits BinOp.and IntKind.u64 (IntKind.u64.wrap (-15)) 31 = 17 := by decide
  have e2 := U_shl x 131072 17 rfl
  have e3 := U_shr x 32768 15 rfl
  have e4 := U_or (x <<< 17) (x >>> 15)
  have e5 := U_addc (x <<< 17 ||| x >>> 15) 2726488792 2726488792 rfl (by decide)
  go_enter Try.func32, Try.ntmps32
  go_wp2
  go_ret
  exact ⟨ret_int e5, rfl⟩
theorem rmask_any (x : BitVec 32) (w : World) : Calls Try.prog 30 #[.int .u32 (U x)] w fun e w' => e = .returned (.int .u32 (U (maskF x))) ∧ w = w' := by
  have h0 := U_lo x
  have h1 := U_hi x
  have e := Lib.hid (maskF_nat x)
  have e' := Lib.hid (show U x = (x.toNat : Int) by unfold U; rfl)
  have e'' := Lib.hid (show U (maskF x) = ((maskF x).toNat : Int) by unfold U; rfl)
  go_enter Try.func30, Try.ntmps30
  go_wp2
  go_ret
  exact ⟨ret_int (by rw [e'.out, e''.out, e.out]; omega), rfl⟩
theorem rsum_of (t : ByteArray) (l : List UInt8) (w : World) (hl : t.data.toList = l) (hm : t.size ≤ maxLen) : 
    Calls Try.prog 31 #[.string t] w fun e w' => e = .returned (.int .u32 (U (sumF l))) ∧ w = w' := by
  subst hl; exact rsum_any t w hm
end
section
open Varint
/-- what hands back bytes of its own, and an error's number -/
def RetBE (e : TypeId) (w : World) (l : List UInt8) (n : Nat) : Ending → World → Prop := fun x w' =>
  ∃ ad cap, x = .returned (.tuple #[.slice ad l.length cap, .int .i64 n]) ∧ Owns w' w.heap.size e 1 ad cap l.length (bv l) ∧ Gr w w'
set_option maxRecDepth 100000 in
set_option maxHeartbeats 1000000 in
theorem Fixed_any (n : Nat) (s : Int) (w : World) (hn : n < 18446744073709551616) (h1 : -9223372036854775808 ≤ s) (h2 : s ≤ 9223372036854775807) :
    Calls Try.prog 26 #[.int .u64 n, .int .i64 s] w (RetBE 5 w (fixedF n s).1 (fixedF n s).2) := by
  by_cases hs : s < 0 ∨ 8 < s
  · have H := Lib.hid (show fixedF n s = ([], 1) by unfold fixedF; rw [if_pos hs])
    rcases hs with hs | hs
    all_goals
      go_enter Try.func26, Try.ntmps26
      go_wp2
      go_ret2
      refine ⟨none, 0, ?_, ?_, Gr.refl _⟩
      · rw [H.out]; rfl
      · rw [H.out]; exact Owns.empty _ _ _ _
  · obtain ⟨k, rfl⟩ := Int.eq_ofNat_of_zero_le (show 0 ≤ s by omega)
    have hk : k ≤ 8 := by omega
    clear hs h1 h2
    have HP := Lib.hid (show (n : Int) / 2 ^ (8 * k) = ((n / 256 ^ k : Nat) : Int) by rw [pow256]; simp)
    by_cases hb : n / 256 ^ k = 0
    · have H := Lib.hid (show fixedF n k = (bytesN k n, 0) by unfold fixedF; rw [if_neg (by omega), if_neg (by simpa using hb)]; rfl)
      have hq : ((n : Int) / 2 ^ (8 * k) != 0) = false := by rw [HP.out, hb]; rfl
      have HB := Lib.hid hb; clear hb
      by_cases hk8 : k < 8
      all_goals
        go_enter Try.func26, Try.ntmps26
        go_wp2
        go_loopw [0, 6, 25] (fun v b i wr => ∃ (j : Nat) (ad : Option Addr) (cap : Nat), j ≤ k ∧ i = .int .i64 j ∧ v = .int .u64 ((n / 256 ^ j : Nat) : Int) ∧ b = .slice ad j cap ∧ Owns wr w.heap.size 5 1 ad cap j (bv (bytesN j n)) ∧ Gr w wr) (fun _ _ i _ => k - (intOf i).toNat)
        case atStart => exact ⟨0, none, 0, Nat.zero_le _, rfl, by simp, rfl, Owns.empty _ _ _ _, Gr.refl _⟩
        case round =>
          obtain ⟨j, ad, cap, hj, rfl, rfl, rfl, ho, hg⟩ := hrel
          have hs := hg.size
          by_cases hlt : j < k
          · generalize hc : n / 256 ^ j = cur at *
            have hb : cur < 18446744073709551616 := by rw [← hc]; exact Nat.lt_of_le_of_lt (Nat.div_le_self _ _) hn
            have HC := Lib.hid hc; clear hc
            have HX := Lib.hid (show (cur : Int) % 256 = ((UInt8.ofNat cur).toNat : Int) by rw [UInt8.toNat_ofNat']; omega)
            go_wp2_with (at_builtin; refine wp_append elemB rfl _ _ rfl rfl (ho.gr (Gr.alloc _ _)) rfl (Src.one _ _ (UInt8.ofNat cur) HX.out Try.underlying22) (by unfold maxLen; omega) (by omega) (by simp; omega) ?_; intro ad2 cap2 w2 o2 k2 f2)
            go_roundw
            case rel =>
              refine ⟨j + 1, ad2, cap2, by omega, by go_num, ?_, rfl, ?_, hg.app ho (Nat.le_refl _) k2⟩
              · rw [Nat.pow_succ, ← Nat.div_div_eq_div_mul, HC.out]; go_num
              · rw [bytesN_snoc, bv_append, HC.out]; exact o2
            case measure => simp [intOf]; omega
          · obtain rfl : j = k := by omega
            go_wp2
            go_ret2
            refine ⟨ad, cap, ?_, ?_, hg⟩
            · rw [H.out]; simp only [bytesN_len]; rfl
            · rw [H.out]; simp only [bytesN_len]; exact ho
    · have hk8 : k < 8 := by
        rcases Nat.lt_or_ge k 8 with h | h
        · exact h
        · have : k = 8 := by omega
          subst this
          exact absurd (Nat.div_eq_of_lt (by omega)) hb
      have H := Lib.hid (show fixedF n k = ([], 14) by unfold fixedF; rw [if_neg (by omega), if_pos (by simpa using hb)])
      have hq : ((n : Int) / 2 ^ (8 * k) != 0) = true := by rw [HP.out, bne_iff_ne]; omega
      clear hb
      go_enter Try.func26, Try.ntmps26
      go_wp2
      go_ret2
      refine ⟨none, 0, ?_, ?_, Gr.refl _⟩
      · rw [H.out]; rfl
      · rw [H.out]; exact Owns.empty _ _ _ _
/-- numbers in so many bytes -/
theorem Whole_any (ad : Option Addr) (len cap : Nat) (l : List UInt8) (w : World) (hl : l.length = len) (hm : len ≤ maxLen) (hb : Bytes w ad l) :
    Calls Try.prog 28 #[.slice ad len cap] w fun e w' => e = .returned (.tuple #[.int .u64 (wholeF l).1, .int .i64 (wholeF l).2]) ∧ w = w' := by
  subst hl
  unfold maxLen at hm
  by_cases h8 : 8 < l.length
  · have H := Lib.hid (show wholeF l = (0, 1) by unfold wholeF; rw [if_pos h8])
    go_enter Try.func28, Try.ntmps28
    go_wp2
    go_ret2
    exact ⟨by rw [H.out]; rfl, rfl⟩
  · have H := Lib.hid (show wholeF l = (le l, 0) by unfold wholeF; rw [if_neg h8])
    go_enter Try.func28, Try.ntmps28
    go_wp2
    go_loop [4, 5, 6, 12] (fun v _ _ i => ∃ k : Nat, k ≤ l.length ∧ i = .int .i64 k ∧ v = .int .u64 (le (l.take k))) (fun _ _ _ i => l.length - (intOf i).toNat)
    case atStart => exact ⟨0, Nat.zero_le _, rfl, rfl⟩
    case round =>
      obtain ⟨k, hk, rfl, rfl⟩ := hrel
      by_cases hlt : k < l.length
      · obtain ⟨b, off, rfl, hc⟩ := hb k hlt
        have hx := byte_hi l[k]
        have h1 := le_take l k (by omega) (by omega)
        have HO := Lib.hid (u64_shl_or (le (l.take k)) l[k].toNat (8 * k) h1.1 (by have := le_fits k l[k].toNat (by omega) l[k].toNat_lt; exact this) h1.2)
        have HT := Lib.hid (le_take_succ l k hlt)
        have h2 := h1.2
        clear h1
        go_wp2
        go_round
        case rel => exact ⟨k + 1, by omega, by go_num, by rw [HO.out, HT.out]⟩
        case measure => simp [intOf]; omega
      · obtain rfl : k = l.length := by omega
        have HL := Lib.hid (List.take_length (l := l))
        go_wp2
        go_ret2
        exact ⟨by rw [H.out]; simp only [List.take_length]; rfl, rfl⟩
end
end Go.Proofs.Ytmjhffohfppnaaa
