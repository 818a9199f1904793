/- Layer 3 (varint): the other functions of the program and of the reference. -/
import Derived.Test.YtmbjihjcblklmaaVarintRef
namespace Go.Proofs.Ytmbjihjcblklmaa
set_option linter.unusedVariables false
set_option linter.unusedSimpArgs false
open Go.RowKit Varint
theorem fold_bits (m : Int) (h1 : -9223372036854775808 ≤ m) (h2 : m ≤ 9223372036854775807) :
    bits .xor .u64 (IntKind.u64.wrap (wrap64 (m * 2))) (IntKind.u64.wrap (m / 9223372036854775808)) = (foldF m : Int) := by
  unfold foldF
  by_cases h : m < 0
  · have e1 : IntKind.u64.wrap (m / 9223372036854775808) = 18446744073709551615 := by rw [IntKind.wrap_u64]; omega
    have e2 : IntKind.u64.wrap (wrap64 (m * 2)) = ((m * 2 + 18446744073709551616).toNat : Int) := by rw [IntKind.wrap_u64]; unfold wrap64; omega
    rw [e1, e2, u64_xor_ones _ (by omega), if_pos h]; omega
  · have e1 : IntKind.u64.wrap (m / 9223372036854775808) = 0 := by rw [IntKind.wrap_u64]; omega
    have e2 : IntKind.u64.wrap (wrap64 (m * 2)) = ((m * 2).toNat : Int) := by rw [IntKind.wrap_u64]; unfold wrap64; omega
    rw [e1, e2, u64_xor_zero _ (by omega), if_neg h]; omega
theorem PutSigned_any (m : Int) (w : World) (h1 : -9223372036854775808 ≤ m) (h2 : m ≤ 9223372036854775807) : Calls Try.prog 11 #[.int .i64 m] w (RetB 5 w (putF (foldF m))) := by
  have H := Lib.hid (fold_bits m h1 h2)
  have P := Lib.hid (Put_any (foldF m) w (foldF_lt m h1 h2))
  go_enter Try.func11, Try.ntmps11
  go_wp2_with (go_at_call 10; rw [H.out]; refine P.out.mono ?_; rintro e w' ⟨ad, cap, rfl, o1, g1⟩)
  go_ret
  exact ⟨ad, cap, rfl, o1, g1⟩
theorem Fold_any (m : Int) (w : World) (h1 : -9223372036854775808 ≤ m) (h2 : m ≤ 9223372036854775807) : Calls Try.prog 14 #[.int .i64 m] w fun e w' => e = .returned (.int .u64 (foldF m)) ∧ w = w' := by
  by_cases h : m < 0
  · go_enter Try.func14, Try.ntmps14
    go_wp2
    go_ret
    exact ⟨ret_int (by unfold foldF; rw [if_pos h]; omega), rfl⟩
  · go_enter Try.func14, Try.ntmps14
    go_wp2
    go_ret
    exact ⟨ret_int (by unfold foldF; rw [if_neg (by omega)]; omega), rfl⟩
theorem Unfold_any (n : Nat) (w : World) (hn : n < 18446744073709551616) : Calls Try.prog 20 #[.int .u64 n] w fun e w' => e = .returned (.int .i64 (unfoldF n)) ∧ w = w' := by
  by_cases h : n % 2 = 1
  · have hb : ((n : Int) % 2 == 1) = true := by rw [beq_iff_eq]; omega
    have H := Lib.hid h; clear h
    go_enter Try.func20, Try.ntmps20
    go_wp2
    go_ret
    exact ⟨ret_int (by unfold unfoldF; rw [if_pos H.out]; omega), rfl⟩
  · have hb : ((n : Int) % 2 == 1) = false := by rw [beq_eq_false_iff_ne]; omega
    have H := Lib.hid h; clear h
    go_enter Try.func20, Try.ntmps20
    go_wp2
    go_ret
    exact ⟨ret_int (by unfold unfoldF; rw [if_neg H.out]; omega), rfl⟩
theorem unfold_bits (n : Nat) (hn : n < 18446744073709551616) : bits .xor .i64 ((n : Int) / 2) (wrap64 (-wrap64 (bits .and .u64 (n : Int) 1))) = unfoldF n := by
  rw [u64_low n hn]
  have e : (n : Int) / 2 = ((n / 2 : Nat) : Int) := by omega
  unfold unfoldF
  by_cases h : n % 2 = 1
  · have e2 : wrap64 (-wrap64 ((n % 2 : Nat) : Int)) = -1 := by rw [h]; unfold wrap64; decide
    rw [e2, e, i64_xor_neg _ (by omega), if_pos h]
  · have h0 : n % 2 = 0 := by omega
    have e2 : wrap64 (-wrap64 ((n % 2 : Nat) : Int)) = 0 := by rw [h0]; unfold wrap64; decide
    rw [e2, e, i64_xor_zero _ (by omega), if_neg h]
theorem ret3_tup {k1 k2 k3 : IntKind} {a b c a' b' c' : Int} (ha : a = a') (hb : b = b') (hc : c = c') :
    Ending.returned (.tuple #[.int k1 a, .int k2 b, .int k3 c]) = .returned (.tuple #[.int k1 a', .int k2 b', .int k3 c']) := by
  subst ha hb hc; rfl
theorem GetSigned_any (ad : Option Addr) (len cap : Nat) (l : List UInt8) (w : World) (hl : l.length = len) (hm : len ≤ maxLen) (hb : Bytes w ad l) :
    Calls Try.prog 19 #[.slice ad len cap] w fun e w' => e = .returned (.tuple #[.int .i64 (unfoldF (getF l).1), .int .i64 (getF l).2.1, .int .i64 (getF l).2.2]) ∧ w = w' := by
  have hlt := getF_lt l
  have G := Lib.hid (Get_any ad len cap l w hl hm hb)
  generalize hp : getF l = p at *
  obtain ⟨n, k, e⟩ := p
  have HP := Lib.hid hp; clear hp
  simp only at hlt ⊢
  have HU := Lib.hid (unfold_bits n hlt)
  go_enter Try.func19, Try.ntmps19
  go_wp2_with (go_at_call 18; refine G.out.mono ?_; rintro e w' ⟨rfl, rfl⟩)
  go_ret3
  exact ⟨ret3_tup HU.out rfl rfl, rfl⟩
theorem PutText_any (t : ByteArray) (w : World) (hm : t.size ≤ 140737488351232) : Calls Try.prog 15 #[.string t] w (RetB 5 w (putF t.size ++ t.data.toList)) := by
  have hp := putN_len 9 t.size
  go_enter Try.func15, Try.ntmps15
  go_wp2_with (first | (go_at_call 10; refine (Put_any t.size w (by omega)).mono ?_; rintro e w1 ⟨ad, cap, rfl, o1, g1⟩) | (at_builtin; refine wp_append elemB rfl _ _ rfl rfl o1 rfl (Src.str t Try.underlying9) (by unfold maxLen putF; omega) (by unfold putF; omega) g1.size ?_; intro ad2 cap2 w2 o2 k2 f2))
  go_ret
  have hsz : (putF t.size ++ t.data.toList).length = (putF t.size).length + t.size := by simp
  refine ⟨ad2, cap2, by rw [hsz]; rfl, ?_, g1.grown k2 (fun k hk => by
    cases ad with
    | none => cases hk
    | some x => cases hk; exact (o1.lt x rfl).1)⟩
  rw [bv_append, hsz]
  exact o2
theorem rPutF_any (n : Nat) (w : World) (hn : n < 18446744073709551616) : Calls Try.prog 13 #[.int .u64 n] w fun e w' => e = .returned (.string (str (putF n))) ∧ Gr w w' :=
  rPut_any 9 n w (by omega) (by omega)
theorem Text_any (t : ByteArray) (w : World) (hm : t.size ≤ 140737488351232) : Calls Try.prog 16 #[.string t] w fun e w' => e = .returned (.string (str (putF t.size ++ t.data.toList))) ∧ Gr w w' := by
  have hp := putN_len 9 t.size
  have hs : ¬ (9223372036854775807 < (str (putF t.size)).size + t.size) := by rw [str_size]; unfold putF; omega
  have HE := Lib.hid (show str (putF t.size) ++ t = str (putF t.size ++ t.data.toList) by rw [← str_append]; rfl)
  clear hp
  go_enter Try.func16, Try.ntmps16
  go_wp2_with (go_at_call 13; refine (rPutF_any t.size w (by omega)).mono ?_; rintro e w1 ⟨rfl, g1⟩)
  go_ret
  exact ⟨by rw [← HE.out]; rfl, g1⟩
/-- numbers in so many bytes -/
theorem Whole_any (ad : Option Addr) (len cap : Nat) (l : List UInt8) (w : World) (hl : l.length = len) (hm : len ≤ maxLen) (hb : Bytes w ad l) :
    Calls Try.prog 26 #[.slice ad len cap] w fun e w' => e = .returned (.tuple #[.int .u64 (wholeF l).1, .int .i64 (wholeF l).2]) ∧ w = w' := by
  subst hl
  unfold maxLen at hm
  by_cases h8 : 8 < l.length
  · have H := Lib.hid (show wholeF l = (0, 1) by unfold wholeF; rw [if_pos h8])
    go_enter Try.func26, Try.ntmps26
    go_wp2
    go_ret2
    exact ⟨by rw [H.out]; rfl, rfl⟩
  · have H := Lib.hid (show wholeF l = (le l, 0) by unfold wholeF; rw [if_neg h8])
    go_enter Try.func26, Try.ntmps26
    go_wp2
    go_loop [4, 5, 6, 12] (fun v _ _ i => ∃ k : Nat, k ≤ l.length ∧ i = .int .i64 k ∧ v = .int .u64 (le (l.take k))) (fun _ _ _ i => l.length - (intOf i).toNat)
    case atStart => exact ⟨0, Nat.zero_le _, rfl, rfl⟩
    case round =>
      obtain ⟨k, hk, rfl, rfl⟩ := hrel
      by_cases hlt : k < l.length
      · obtain ⟨b, off, rfl, hc⟩ := hb k hlt
        have hx := byte_hi l[k]
        have h1 := le_take l k (by omega) (by omega)
        have HO := Lib.hid (u64_shl_or (le (l.take k)) l[k].toNat (8 * k) h1.1 (by have := le_fits k l[k].toNat (by omega) l[k].toNat_lt; exact this) h1.2)
        have HT := Lib.hid (le_take_succ l k hlt)
        have h2 := h1.2
        clear h1
        go_wp2
        go_round
        case rel => exact ⟨k + 1, by omega, by go_num, by rw [HO.out, HT.out]⟩
        case measure => simp [intOf]; omega
      · obtain rfl : k = l.length := by omega
        have HL := Lib.hid (List.take_length (l := l))
        go_wp2
        go_ret2
        exact ⟨by rw [H.out]; simp only [List.take_length]; rfl, rfl⟩
end Go.Proofs.Ytmbjihjcblklmaa
