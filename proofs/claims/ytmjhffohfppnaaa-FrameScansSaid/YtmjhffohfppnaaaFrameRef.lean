/- Layer 8 (frame): the reference's functions. -/
import Derived.Test.YtmjhffohfppnaaaFrameLay
import Derived.Test.YtmjhffohfppnaaaAnyT
namespace Go.Proofs.Ytmjhffohfppnaaa
set_option linter.unusedVariables false
set_option linter.unusedSimpArgs false
open Go.RowKit Fr
theorem str_extract_to (l : List UInt8) (i : Nat) : (str l).extract i l.length = str (l.drop i) := by
  rw [str_extract, List.take_of_length_le (by simp)]
attribute [go_sem] str_size str_extract str_append
attribute [go_sem high] str_extract_to
@[go_sem] theorem str_get (l : List UInt8) (i : Nat) (h : i < (str l).size) : (str l)[i]'h = l[i]'(by rw [str_size] at h; exact h) := rfl
attribute [go_sem] str_size str_extract str_append
attribute [go_sem high] str_extract_to
theorem piece_eq {b : List UInt8} {p n : Nat} {k : UInt8} {s : List UInt8} (h7 : p + 7 ≤ b.length) (hk : b[p + 6] = k) (hs : (b.drop (p + 7)).take n = s) (hsl : s.length = n) (hn : lenAt b p h7 = n) :
    (pieceF k s = (b.drop p).take (7 + n)) ↔ Varint.le ((b.drop p).take 4) = (sumB k s).toNat := by
  have h2 : UInt8.ofNat n = b[p + 4] := by
    apply UInt8.toNat_inj.1; rw [UInt8.toNat_ofNat', ← hn]; unfold lenAt; have := (b[p + 4]).toNat_lt; omega
  have h3 : UInt8.ofNat (n / 256) = b[p + 5] := by
    apply UInt8.toNat_inj.1; rw [UInt8.toNat_ofNat', ← hn]; unfold lenAt; have := (b[p + 4]).toNat_lt; have := (b[p + 5]).toNat_lt; omega
  rw [drop7 h7, Nat.add_comm 7 n]
  simp only [pieceF, Varint.bytesN, List.cons_append, List.nil_append, List.take_succ_cons, List.take_zero, List.cons.injEq, hsl, h2, h3, hk, hs, and_true]
  constructor
  · rintro ⟨a0, a1, a2, a3⟩
    rw [← a0, ← a1, ← a2, ← a3, le_four _ (sumB_lt _ _)]
  · intro e
    have := bytesN_le [b[p], b[p + 1], b[p + 2], b[p + 3]]
    rw [e] at this
    simp only [List.length_cons, List.length_nil, Nat.zero_add, Nat.reduceAdd, Varint.bytesN, List.cons.injEq, and_true] at this
    exact this
set_option maxRecDepth 100000 in
theorem rlow_any (n k : Nat) (w : World) (hn : n ≤ 9223372036854775807) (hk : k ≤ 8) : Calls Try.prog 29 #[.int .i64 (n : Int), .int .i64 (k : Int)] w fun e w' => e = .returned (.string (str (Varint.bytesN k n))) ∧ Gr w w' := by
  go_enter Try.func29, Try.ntmps29
  go_wp2
  go_loopw [0, 5, 6] (fun vn vs vi wr => ∃ j : Nat, j ≤ k ∧ vn = .int .i64 ((n / 256 ^ j : Nat) : Int) ∧ vs = .string (str (Varint.bytesN j n)) ∧ vi = .int .i64 (j : Int) ∧ Gr w wr) (fun _ _ vi _ => k - (intOf vi).toNat)
  case atStart => exact ⟨0, Nat.zero_le _, by simp, rfl, rfl, Gr.refl _⟩
  case round =>
    obtain ⟨j, hj, rfl, rfl, rfl, hg⟩ := hrel
    by_cases hlt : j < k
    · generalize hc : n / 256 ^ j = cur at *
      have hcur : cur ≤ n := by rw [← hc]; exact Nat.div_le_self _ _
      have HC2 := Lib.hid hc; clear hc
      have HX := Lib.hid (show (cur : Int) % 256 = ((UInt8.ofNat cur).toNat : Int) by rw [UInt8.toNat_ofNat']; omega)
      have hs := run_string (P := Try.prog) Try.underlying22 Try.underlying5 Try.underlying9 (cap := 1) (len := 1) rfl (Bytes.alloc wr #[.int .u8 ((cur : Int) % 256)] 5 (0, 0) [UInt8.ofNat cur] (by rw [HX.out]; rfl))
      have hbl := Varint.bytesN_len j n
      go_wp2
      go_roundw
      case rel =>
        refine ⟨j + 1, by omega, ?_, ?_, by go_num, hg.trans (Gr.alloc _ _)⟩
        · rw [Nat.pow_succ, ← Nat.div_div_eq_div_mul, HC2.out]; go_num
        · rw [Varint.bytesN_snoc, HC2.out]
      case measure => simp [intOf]; omega
    · obtain rfl : j = k := by omega
      go_wp2
      go_ret
      exact ⟨rfl, hg⟩
theorem rlow_at (X S : Int) (n k : Nat) (w : World) (hX : X = (n : Int)) (hS : S = (k : Int)) (hn : n ≤ 9223372036854775807) (hk : k ≤ 8) : Calls Try.prog 29 #[.int .i64 X, .int .i64 S] w fun e w' => e = .returned (.string (str (Varint.bytesN k n))) ∧ Gr w w' := by
  subst hX hS; exact rlow_any n k w hn hk
set_option maxRecDepth 100000 in
theorem rPiece_any (k : UInt8) (s : List UInt8) (w : World) (hs : s.length ≤ 100000000) : Calls Try.prog 25 #[.int .i64 (k.toNat : Int), .string (str s)] w fun e w' => e = .returned (.string (str (pieceF k s))) ∧ Gr w w' := by
  have hk := byte_hi k
  have HP := Lib.hid (show pieceF k s = Varint.bytesN 4 (sumB k s).toNat ++ (Varint.bytesN 2 s.length ++ k :: s) from rfl)
  have hm : sumB k s = Crc.maskF (Crc.sumF (k :: s)) := rfl
  have hlt := sumB_lt k s
  have hst := run_string (P := Try.prog) Try.underlying22 Try.underlying5 Try.underlying9 (cap := 1) (len := 1) rfl (Bytes.alloc w #[.int .u8 (k.toNat : Int)] 5 (0, 0) [k] rfl)
  have h4 := Varint.bytesN_len 4 (sumB k s).toNat
  have h2 := Varint.bytesN_len 2 s.length
  have HR := Lib.hid (fun w => rsum_of (str ([k] ++ s)) (k :: s) w (str_list _) (by rw [str_size]; unfold maxLen; simp; omega))
  have HM := Lib.hid (fun w => rmask_any (Crc.sumF (k :: s)) w)
  rw [← hm] at HM
  have hU : U (sumB k s) = ((sumB k s).toNat : Int) := by unfold U; rfl
  have HU := Lib.hid hU
  have hu0 := U_lo (sumB k s)
  have hu1 := U_hi (sumB k s)
  clear hm hU
  generalize sumB k s = sm at *
  go_enter Try.func25, Try.ntmps25
  go_wp2_with (first
    | (go_at_call 31; refine (HR.out _).mono ?_; rintro e w1 ⟨rfl, rfl⟩)
    | (go_at_call 30; refine (HM.out _).mono ?_; rintro e w1 ⟨rfl, rfl⟩)
    | (go_at_call 29; (with_reducible refine (rlow_at _ 4 sm.toNat 4 _ HU.out rfl (by omega) (by omega)).mono ?_); rintro e w1 ⟨rfl, g1⟩)
    | (go_at_call 29; refine (rlow_at _ 2 s.length 2 _ rfl rfl (by omega) (by omega)).mono ?_; rintro e w2 ⟨rfl, g2⟩))
  go_ret
  exact ⟨by rw [HP.out]; rfl, ((Gr.alloc _ _).trans g1).trans g2⟩
theorem rPiece_at (X : Int) (k : UInt8) (s : List UInt8) (w : World) (hX : X = (k.toNat : Int)) (hs : s.length ≤ 100000000) : Calls Try.prog 25 #[.int .i64 X, .string (str s)] w fun e w' => e = .returned (.string (str (pieceF k s))) ∧ Gr w w' := by
  subst hX; exact rPiece_any k s w hs
theorem rRoom_any (a : Nat) (w : World) (ha : a ≤ 9223372036854775807) : Calls Try.prog 14 #[.int .i64 (a : Int)] w fun e w' => e = .returned (.int .i64 (roomF a : Nat)) ∧ w = w' := by
  have hm := Nat.mod_lt a (show 0 < 128 by decide)
  have hl : leftF a = 128 - a % 128 := rfl
  by_cases h : leftF a < 7
  · have H := Lib.hid (show (roomF a : Int) = 121 by unfold roomF; rw [if_pos h]; rfl)
    have h2 : 128 - (a : Int) % 128 < 7 := by omega
    clear h hl hm
    go_enter Try.func14, Try.ntmps14
    go_wp2
    go_ret
    exact ⟨ret_int H.out.symm, rfl⟩
  · have H := Lib.hid (show (roomF a : Int) = 128 - (a : Int) % 128 - 7 by unfold roomF; rw [if_neg h, hl]; omega)
    have h2 : ¬ 128 - (a : Int) % 128 < 7 := by omega
    clear h hl hm
    go_enter Try.func14, Try.ntmps14
    go_wp2
    go_ret
    exact ⟨ret_int H.out.symm, rfl⟩
theorem rRoom_neg (a : Int) (w : World) (h1 : -9223372036854775808 ≤ a) (ha : a < 0) : Calls Try.prog 14 #[.int .i64 a] w fun e w' => e = .returned (.int .i64 0) ∧ w = w' := by
  go_enter Try.func14, Try.ntmps14
  go_wp2
  go_ret
  exact ⟨rfl, rfl⟩
theorem rRoom_at (X : Int) (a : Nat) (w : World) (hX : X = (a : Int)) (ha : a ≤ 9223372036854775807) : Calls Try.prog 14 #[.int .i64 X] w fun e w' => e = .returned (.int .i64 (roomF a : Nat)) ∧ w = w' := by
  subst hX; exact rRoom_any a w ha
end Go.Proofs.Ytmjhffohfppnaaa
