/- Layer 4 (crc): what each function computes. -/
import Derived.Test.YtpebdkkcbhlidaaRows
import Derived.Test.YtpebdkkcbhlidaaBase
import Derived.Test.YtpebdkkcbhlidaaCrcMath
namespace Go.Proofs.Ytpebdkkcbhlidaa
open Go.RowKit Crc
theorem step_any (r : BitVec 32) (w : World) : Calls Try.prog 16 #[.int .u32 (U r)] w fun e w' => e = .returned (.int .u32 (U (stepF r))) ∧ w = w' := by
  have h0 := U_lo r
  have h1 := U_hi r
  go_enter Try.func16, Try.ntmps16
  go_wp2
  go_ret
  refine ⟨ret_int ?_, rfl⟩
  have e3 : U r / 2 = _ := U_shr r 2 1 rfl
  rw [U_andc r 1 1 rfl (by decide), U_neg, U_andc _ 2197175160 2197175160 rfl (by decide), e3, U_xor]
  rfl
set_option maxRecDepth 100000 in
set_option maxHeartbeats 400000 in
theorem more_any (s : BitVec 32) (ad : Option Addr) (len cap : Nat) (l : List UInt8) (w : World) (hlen : l.length = len) (hm : len ≤ maxLen)
   (hc : Bytes w ad l) : 
    Calls Try.prog 10 #[.int .u32 (U s), .slice ad len cap] w fun e w' => e = .returned (.int .u32 (U (moreF s l))) ∧ w = w' := by
  have h0 := U_lo s
  have h1 := U_hi s
  have h2 := U_not s
  unfold maxLen at hm
  subst hlen
  go_enter Try.func10, Try.ntmps10
  go_wp2
  go_loop [5, 7, 12] (fun r _ i => ∃ k : Nat, k ≤ l.length ∧ i = .int .i64 k ∧ r = .int .u32 (U (foldF (~~~ s) (l.take k)))) (fun _ _ i => l.length - (intOf i).toNat)
  case atStart => 
    exact ⟨0, Nat.zero_le _, rfl, by rw [List.take_zero]; rfl⟩
  case round =>
    obtain ⟨k, hk, rfl, rfl⟩ := hrel
    by_cases hlt : k < l.length
    · obtain ⟨b, off, rfl, hcell⟩ := hc k hlt
      have hB1 := byte_hi l[k]
      have hx := U_xorB (foldF (~~~ s) (l.take k)) l[k]
      generalize hR : foldF (~~~ s) (l.take k) = R at *
      have HR := Lib.hid hR; clear hR
      go_wp2
      go_loop [5, 20] (fun r i => ∃ j : Nat, j ≤ 8 ∧ i = .int .i64 j ∧ r = .int .u32 (U (iterF j (R ^^^ BitVec.ofNat 32 l[k].toNat)))) (fun _ i => 8 - (intOf i).toNat)
      case atStart => exact ⟨0, by omega, rfl, by first | rw [iterF] | rw [bitsF]⟩
      case round =>
        obtain ⟨j, hj, rfl, rfl⟩ := hrel
        by_cases hj8 : j < 8
        · go_wp2_with (go_at_call 16; refine (step_any _ _).mono ?_; rintro e w' ⟨rfl, rfl⟩)
          go_round
          case rel => exact ⟨j + 1, by omega, by go_num, by rw [iterF_succ']⟩
          case measure => simp [intOf]; omega
        · obtain rfl : j = 8 := by omega
          go_wp2
          go_round
          case rel => exact ⟨k + 1, by omega, by go_num, by rw [List.take_succ_eq_append_getElem hlt, foldF_snoc, HR.out]; rfl⟩
          case measure => simp [intOf]; omega
    · obtain rfl : k = l.length := by omega
      have h3 := U_not (foldF (~~~ s) l)
      go_wp2
      go_ret
      exact ⟨rfl, rfl⟩
theorem sum_any (ad : Option Addr) (len cap : Nat) (l : List UInt8) (w : World) (hlen : l.length = len) (hm : len ≤ maxLen)
   (hc : Bytes w ad l) : 
    Calls Try.prog 8 #[.slice ad len cap] w fun e w' => e = .returned (.int .u32 (U (sumF l))) ∧ w = w' := by
  have hz : (0 : Int) = U 0#32 := U_lit 0 rfl (by decide)
  have HZ := Lib.hid hz; clear hz
  go_enter Try.func8, Try.ntmps8
  go_wp2_with (go_at_call 10; rw [HZ.out]; refine (more_any _ _ _ _ l _ hlen hm hc).mono ?_; rintro e w' ⟨rfl, rfl⟩)
  go_ret
  exact ⟨rfl, rfl⟩
theorem rstep_any (r b : BitVec 32) (w : World) : Calls Try.prog 17 #[.int .u32 (U r), .int .u32 (U b)] w fun e w' => e = .returned (.int .u32 (U (bitF r b))) ∧ w = w' := by
  have h0 := U_lo r
  have h1 := U_hi r
  have hx := U_xor r b
  have h2 := U_lo (r ^^^ b)
  have hs := U_shr r 2 1 rfl
  have hxc := U_xorc (r >>> 1) 2197175160 2197175160 rfl (by decide)
  have hb := Lib.hid (show bitF r b = if (r ^^^ b).toNat % 2 = 1 then (r >>> 1) ^^^ 0x82F63B78#32 else r >>> 1 from rfl)
  have hu := Lib.hid (show U (r ^^^ b) % 2 = (((r ^^^ b).toNat % 2 : Nat) : Int) by unfold U; omega)
  by_cases hc : (r ^^^ b).toNat % 2 = 1
  · have hd : (U (r ^^^ b) % 2 == 1) = true := by rw [hu.out, hc]; rfl
    rw [hb.out, if_pos hc]
    have HC := Lib.hid hc; clear hc
    go_enter Try.func17, Try.ntmps17
    go_wp2
    go_ret
    exact ⟨rfl, rfl⟩
  · have hd : (U (r ^^^ b) % 2 == 1) = false := by rw [hu.out, beq_eq_false_iff_ne]; omega
    rw [hb.out, if_neg hc]
    have HC := Lib.hid hc; clear hc
    go_enter Try.func17, Try.ntmps17
    go_wp2
    go_ret
    exact ⟨ret_int hs, rfl⟩
set_option maxRecDepth 100000 in
set_option maxHeartbeats 400000 in
theorem rmore_any (s : BitVec 32) (t : ByteArray) (w : World) (hm : t.size ≤ maxLen) :
    Calls Try.prog 11 #[.int .u32 (U s), .string t] w fun e w' => e = .returned (.int .u32 (U (moreF s t.data.toList))) ∧ w = w' := by
  have h0 := U_lo s
  have h1 := U_hi s
  have h2 := U_not s
  unfold maxLen at hm
  go_enter Try.func11, Try.ntmps11
  go_wp2
  go_loop [5, 6, 7] (fun r i _ => ∃ k : Nat, k ≤ t.size ∧ i = .int .i64 k ∧ r = .int .u32 (U (foldF (~~~ s) (t.data.toList.take k)))) (fun _ i _ => t.size - (intOf i).toNat)
  case atStart => 
    exact ⟨0, Nat.zero_le _, rfl, by rw [List.take_zero]; rfl⟩
  case round =>
    obtain ⟨k, hk, rfl, rfl⟩ := hrel
    by_cases hlt : k < t.size
    · generalize hR : foldF (~~~ s) (t.data.toList.take k) = R at *
      have HR := Lib.hid hR; clear hR
      have hB1 := byte_hi t[k]
      have hbb := U_byte_bit t[k]
      go_wp2
      go_loop [5, 7] (fun r i => ∃ j : Nat, j ≤ 8 ∧ i = .int .i64 j ∧ r = .int .u32 (U (bitsF j R (BitVec.ofNat 32 t[k].toNat)))) (fun _ i => 8 - (intOf i).toNat)
      case atStart => exact ⟨0, by omega, rfl, by first | rw [iterF] | rw [bitsF]⟩
      case round =>
        obtain ⟨j, hj, rfl, rfl⟩ := hrel
        by_cases hj8 : j < 8
        · go_wp2_with (go_at_call 17; refine (rstep_any _ _ _).mono ?_; rintro e w' ⟨rfl, rfl⟩)
          go_round
          case rel => exact ⟨j + 1, by omega, by go_num, by rw [bitsF_snoc]⟩
          case measure => simp [intOf]; omega
        · obtain rfl : j = 8 := by omega
          go_wp2
          go_round
          case rel => exact ⟨k + 1, by omega, by go_num, by rw [bitsF_byte, List.take_succ_eq_append_getElem (by simpa using hlt), foldF_snoc, HR.out]; rfl⟩
          case measure => simp [intOf]; omega
    · obtain rfl : k = t.size := by omega
      have h3 := U_not (foldF (~~~ s) t.data.toList)
      have h4 : t.data.toList.take t.size = t.data.toList := List.take_of_length_le (by simp)
      go_wp2
      go_ret
      exact ⟨rfl, rfl⟩
theorem rsum_any (t : ByteArray) (w : World) (hm : t.size ≤ maxLen) : 
    Calls Try.prog 9 #[.string t] w fun e w' => e = .returned (.int .u32 (U (sumF t.data.toList))) ∧ w = w' := by
  have hz : (0 : Int) = U 0#32 := U_lit 0 rfl (by decide)
  have HZ := Lib.hid hz; clear hz
  go_enter Try.func9, Try.ntmps9
  go_wp2_with (go_at_call 11; rw [HZ.out]; refine (rmore_any _ _ _ hm).mono ?_; rintro e w' ⟨rfl, rfl⟩)
  go_ret
  exact ⟨rfl, rfl⟩
theorem mask_any (x : BitVec 32) (w : World) : Calls Try.prog 12 #[.int .u32 (U x)] w fun e w' => e = .returned (.int .u32 (U (maskF x))) ∧ w = w' := by
  have h0 := U_lo x
  have h1 := U_hi x
  have e1 : bits BinOp.and IntKind.u64 (IntKind.u64.wrap (-15)) 31 = 17 := by decide
  have e2 := U_shl x 131072 17 rfl
  have e3 := U_shr x 32768 15 rfl
  have e4 := U_or (x <<< 17) (x >>> 15)
  have e5 := U_addc (x <<< 17 ||| x >>> 15) 2726488792 2726488792 rfl (by decide)
  go_enter Try.func12, Try.ntmps12
  go_wp2
  go_ret
  exact ⟨ret_int e5, rfl⟩
theorem unmask_any (x : BitVec 32) (w : World) : Calls Try.prog 14 #[.int .u32 (U x)] w fun e w' => e = .returned (.int .u32 (U (unmaskF x))) ∧ w = w' := by
  have h0 := U_lo x
  have h1 := U_hi x
  have e1 : bits BinOp.and IntKind.u64 15 31 = 15 := by decide
  have e6 := U_subc x 2726488792 2726488792 rfl (by decide)
  generalize hy : x - BitVec.ofNat 32 2726488792 = y at *
  have HY := Lib.hid hy; clear hy
  have e2 := U_shl y 32768 15 rfl
  have e3 := U_shr y 131072 17 rfl
  have e4 := U_or (y <<< 15) (y >>> 17)
  go_enter Try.func14, Try.ntmps14
  go_wp2
  go_ret
  exact ⟨ret_int (by unfold unmaskF; rw [← HY.out]), rfl⟩
theorem rmask_any (x : BitVec 32) (w : World) : Calls Try.prog 13 #[.int .u32 (U x)] w fun e w' => e = .returned (.int .u32 (U (maskF x))) ∧ w = w' := by
  have h0 := U_lo x
  have h1 := U_hi x
  have e := Lib.hid (maskF_nat x)
  have e' := Lib.hid (show U x = (x.toNat : Int) by unfold U; rfl)
  have e'' := Lib.hid (show U (maskF x) = ((maskF x).toNat : Int) by unfold U; rfl)
  go_enter Try.func13, Try.ntmps13
  go_wp2
  go_ret
  exact ⟨ret_int (by rw [e'.out, e''.out, e.out]; omega), rfl⟩
theorem runmask_any (x : BitVec 32) (w : World) : Calls Try.prog 15 #[.int .u32 (U x)] w fun e w' => e = .returned (.int .u32 (U (unmaskF x))) ∧ w = w' := by
  have h0 := U_lo x
  have h1 := U_hi x
  have e := Lib.hid (unmaskF_nat x)
  have e' := Lib.hid (show U x = (x.toNat : Int) by unfold U; rfl)
  have e'' := Lib.hid (show U (unmaskF x) = ((unmaskF x).toNat : Int) by unfold U; rfl)
  go_enter Try.func15, Try.ntmps15
  go_wp2
  go_ret
  exact ⟨ret_int (by rw [e'.out, e''.out, e.out]; omega), rfl⟩
theorem rsum_of (t : ByteArray) (l : List UInt8) (w : World) (hl : t.data.toList = l) (hm : t.size ≤ maxLen) : 
    Calls Try.prog 9 #[.string t] w fun e w' => e = .returned (.int .u32 (U (sumF l))) ∧ w = w' := by
  subst hl; exact rsum_any t w hm
theorem rmore_of (s : BitVec 32) (t : ByteArray) (l : List UInt8) (w : World) (hl : t.data.toList = l) (hm : t.size ≤ maxLen) : 
    Calls Try.prog 11 #[.int .u32 (U s), .string t] w fun e w' => e = .returned (.int .u32 (U (moreF s l))) ∧ w = w' := by
  subst hl; exact rmore_any s t w hm
end Go.Proofs.Ytpebdkkcbhlidaa
