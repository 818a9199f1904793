/- Layer 6 (bloom): a key's number, in the program and in the reference. -/
import Derived.Test.YtpkbifaeofcckaaRows
import Derived.Test.YtpkbifaeofcckaaAnyT
import Derived.Test.YtpkbifaeofcckaaStr
import Derived.Test.YtpkbifaeofcckaaBloomMath
namespace Go.Proofs.Ytpkbifaeofcckaa
set_option linter.unusedVariables false
set_option linter.unusedSimpArgs false
open Go.RowKit Bloom
theorem u32_join (a b i : Nat) (ha : a < 2 ^ i) (hb : b * 2 ^ i < 4294967296) (hs : a < 4294967296) : bits .or .u32 (a : Int) ((b * 2 ^ i : Nat) : Int) = ((a + b * 2 ^ i : Nat) : Int) := by
  rw [u32_or_nat _ _ hs hb, Nat.or_comm, nat_join i _ _ (Nat.mul_mod_left _ _) ha, Nat.add_comm]
theorem or4 (a b c d : UInt8) : bits .or .u32 (bits .or .u32 (bits .or .u32 (a.toNat : Int) ((b.toNat : Int) * 256)) ((c.toNat : Int) * 65536)) ((d.toNat : Int) * 16777216) = ((a.toNat + b.toNat * 256 + c.toNat * 65536 + d.toNat * 16777216 : Nat) : Int) := by
  have ha := a.toNat_lt
  have hb := b.toNat_lt
  have hc := c.toNat_lt
  have hd := d.toNat_lt
  have e1 : ((b.toNat : Int) * 256) = ((b.toNat * 2 ^ 8 : Nat) : Int) := by omega
  have e2 : ((c.toNat : Int) * 65536) = ((c.toNat * 2 ^ 16 : Nat) : Int) := by omega
  have e3 : ((d.toNat : Int) * 16777216) = ((d.toNat * 2 ^ 24 : Nat) : Int) := by omega
  rw [e1, e2, e3, u32_join _ _ 8 (by omega) (by omega) (by omega), u32_join _ _ 16 (by omega) (by omega) (by omega), u32_join _ _ 24 (by omega) (by omega) (by omega)]
theorem word_lt (a b c d : UInt8) : a.toNat + b.toNat * 256 + c.toNat * 65536 + d.toNat * 16777216 < 4294967296 := by
  have ha := a.toNat_lt
  have hb := b.toNat_lt
  have hc := c.toNat_lt
  have hd := d.toNat_lt
  omega
theorem mixU (H : BitVec 32) (N : Nat) (hN : N < 4294967296) :
    bits .xor .u32 ((U H + (N : Int)) % 4294967296 * 3332679571 % 4294967296) ((U H + (N : Int)) % 4294967296 * 3332679571 % 4294967296 / 65536) = U (mixW H (BitVec.ofNat 32 N)) := by
  rw [U_addc H _ N rfl hN, U_mulc _ 3332679571 3332679571 rfl (by decide), U_shr _ 65536 16 rfl, U_xor]
  rfl
theorem endU (H : BitVec 32) : bits .xor .u32 (U H * 3332679571 % 4294967296) (U H * 3332679571 % 4294967296 / 16777216) = U (H * fac ^^^ (H * fac) >>> 24) := by
  rw [U_mulc _ 3332679571 3332679571 rfl (by decide), U_shr _ 16777216 24 rfl, U_xor]
  rfl
theorem seedU (n : Nat) : bits .xor .u32 3164544308 ((n : Int) % 4294967296 * 3332679571 % 4294967296) = U (seedF n) := by
  have e : (n : Int) % 4294967296 = U (BitVec.ofNat 32 n) := by rw [U_ofNat]; omega
  rw [e, U_mulc _ 3332679571 3332679571 rfl (by decide), U_lit (m := 3164544308) 3164544308 rfl (by decide), U_xor]
  rfl
theorem tailU (X : BitVec 32) (x : UInt8) (j : Nat) : (U X + (x.toNat : Int) * 2 ^ (8 * j) % 4294967296) % 4294967296 = U (X + BitVec.ofNat 32 (x.toNat * 256 ^ j)) := by
  have e : (x.toNat : Int) * 2 ^ (8 * j) % 4294967296 = U (BitVec.ofNat 32 (x.toNat * 256 ^ j)) := by
    rw [U_ofNat]
    have : (x.toNat : Int) * 2 ^ (8 * j) = ((x.toNat * 256 ^ j : Nat) : Int) := by rw [show 256 ^ j = 2 ^ (8 * j) by rw [Nat.pow_mul]]; simp
    rw [this]; omega
  rw [e, U_add]
set_option maxRecDepth 100000 in
set_option maxHeartbeats 1000000 in
theorem Hash_any (key : List UInt8) (w : World) (hm : key.length ≤ 9223372036854775807) :
    Calls Try.prog 11 #[.string (str key)] w fun e w' => e = .returned (.int .u32 (U (hashF key))) ∧ Gr w w' := by
  go_enter Try.func11, Try.ntmps11
  go_wp2
  go_loopw [0, 3] (fun k h wr => ∃ (l : List UInt8) (H : BitVec 32), l.length ≤ key.length ∧ k = .string (str l) ∧ h = .int .u32 (U H) ∧ hashF key = hashG H l ∧ Gr w wr) (fun k _ _ => match k with | .string t => t.size | _ => 0)
  case atStart => exact ⟨key, _, Nat.le_refl _, rfl, by rw [seedU], rfl, Gr.refl _⟩
  case round =>
    obtain ⟨l, H, hl, rfl, rfl, hh, hg⟩ := hrel
    have hU0 := U_lo H
    have hU1 := U_hi H
    by_cases h4 : 4 ≤ l.length
    · match l with
      | a :: b :: c :: d :: r =>
        rw [hashG_four] at hh
        have HH := Lib.hid hh; clear hh h4
        have ha := byte_hi a
        have hb := byte_hi b
        have hc := byte_hi c
        have hd := byte_hi d
        go_wp2
        go_quiet (fail)
        go_wp2
        go_roundw
        case rel =>
          simp only [List.length_cons] at hl
          exact ⟨r, _, by omega, rfl, by rw [or4, mixU _ _ (word_lt a b c d)]; rfl, HH.out, hg.trans (Gr.drewN _ _)⟩
        case measure => simp [str_size]; omega
    · rw [hashG_end _ _ (by omega)] at hh
      by_cases h0 : l = []
      · subst h0
        have HH := Lib.hid hh; clear hh
        go_wp2
        go_ret
        exact ⟨by rw [HH.out]; rfl, hg⟩
      · have hl0 : 0 < l.length := by cases l with | nil => exact absurd rfl h0 | cons x r => simp
        have hb0 : ((l.length : Int) == 0) = false := by rw [beq_eq_false_iff_ne]; omega
        unfold endF at hh
        rw [if_neg h0] at hh
        have HH := Lib.hid hh; clear hh h0
        go_wp2
        obtain ⟨wo, rfl⟩ : ∃ wo : World, wo = wr := ⟨_, rfl⟩
        go_loop [3, 4, 47] (fun h _ i => ∃ j : Nat, j ≤ l.length ∧ i = .int .i64 j ∧ h = .int .u32 (U (H + tailS (l.take j) 0))) (fun _ _ i => l.length - (intOf i).toNat)
        case atStart => exact ⟨0, Nat.zero_le _, rfl, by simp [tailS]⟩
        case round =>
          obtain ⟨j, hj, rfl, rfl⟩ := hrel
          by_cases hlt : j < l.length
          · have hx := byte_hi l[j]
            go_wp2
            go_round
            case rel => exact ⟨j + 1, by omega, by go_num, by rw [tailU, List.take_succ_eq_append_getElem hlt, tail_snoc, BitVec.add_assoc]; simp [Nat.min_eq_left hj]⟩
            case measure => simp [intOf]; omega
          · obtain rfl : j = l.length := by omega
            go_wp2
            go_ret
            exact ⟨by rw [HH.out]; exact ret_int (endU _), hg⟩
theorem unitU (j : Nat) : U (BitVec.ofNat 32 (256 ^ j)) * 256 % 4294967296 = U (BitVec.ofNat 32 (256 ^ (j + 1))) := by
  rw [U_ofNat, U_ofNat, Nat.pow_succ]; omega
theorem tailV (X : BitVec 32) (x : UInt8) (j : Nat) : (U X + (x.toNat : Int) * U (BitVec.ofNat 32 (256 ^ j)) % 4294967296) % 4294967296 = U (X + BitVec.ofNat 32 (x.toNat * 256 ^ j)) := by
  have e : (x.toNat : Int) * U (BitVec.ofNat 32 (256 ^ j)) % 4294967296 = U (BitVec.ofNat 32 (x.toNat * 256 ^ j)) := by
    rw [U_ofNat, U_ofNat]
    have h : x.toNat * (256 ^ j % 4294967296) % 4294967296 = x.toNat * 256 ^ j % 4294967296 := by rw [Nat.mul_mod, Nat.mod_mod, ← Nat.mul_mod]
    generalize 256 ^ j = y at *
    generalize hz : y % 4294967296 = z at *
    rw [← h, ← Int.natCast_mul]
    exact (Int.natCast_emod _ _).symm
  rw [e, U_add]
theorem sum4 (H : BitVec 32) (a b c d : UInt8) : U H + (a.toNat : Int) + (b.toNat : Int) * 256 + (c.toNat : Int) * 65536 + (d.toNat : Int) * 16777216 = U H + ((a.toNat + b.toNat * 256 + c.toNat * 65536 + d.toNat * 16777216 : Nat) : Int) := by omega
set_option maxRecDepth 100000 in
set_option maxHeartbeats 1000000 in
theorem rHash_any (key : List UInt8) (w : World) (hm : key.length ≤ 9223372036854775807) :
    Calls Try.prog 12 #[.string (str key)] w fun e w' => e = .returned (.int .u32 (U (hashF key))) ∧ Gr w w' := by
  go_enter Try.func12, Try.ntmps12
  go_wp2
  go_loopw [0, 3] (fun k h wr => ∃ (l : List UInt8) (H : BitVec 32), l.length ≤ key.length ∧ k = .string (str l) ∧ h = .int .u32 (U H) ∧ hashF key = hashG H l ∧ Gr w wr) (fun k _ _ => match k with | .string t => t.size | _ => 0)
  case atStart => exact ⟨key, _, Nat.le_refl _, rfl, by rw [seedU], rfl, Gr.refl _⟩
  case round =>
    obtain ⟨l, H, hl, rfl, rfl, hh, hg⟩ := hrel
    have hU0 := U_lo H
    have hU1 := U_hi H
    by_cases h4 : 4 ≤ l.length
    · match l with
      | a :: b :: c :: d :: r =>
        rw [hashG_four] at hh
        have HH := Lib.hid hh; clear hh h4
        have ha := byte_hi a
        have hb := byte_hi b
        have hc := byte_hi c
        have hd := byte_hi d
        go_wp2
        go_quiet (fail)
        go_wp2
        go_roundw
        case rel =>
          simp only [List.length_cons] at hl
          exact ⟨r, _, by omega, rfl, by rw [sum4, mixU _ _ (word_lt a b c d)]; rfl, HH.out, hg.trans (Gr.drewN _ _)⟩
        case measure => simp [str_size]; omega
    · rw [hashG_end _ _ (by omega)] at hh
      by_cases h0 : l = []
      · subst h0
        have HH := Lib.hid hh; clear hh
        go_wp2
        go_ret
        exact ⟨by rw [HH.out]; rfl, hg⟩
      · have hl0 : 0 < l.length := by cases l with | nil => exact absurd rfl h0 | cons x r => simp
        have hb0 : (l == []) = false := by rw [beq_eq_false_iff_ne]; exact h0
        have hb1 : l.isEmpty = false := by cases l with | nil => exact absurd rfl h0 | cons x r => rfl
        unfold endF at hh
        rw [if_neg h0] at hh
        have HH := Lib.hid hh; clear hh h0
        go_wp2
        obtain ⟨wo, rfl⟩ : ∃ wo : World, wo = wr := ⟨_, rfl⟩
        go_loop [3, 4, 5] (fun h u i => ∃ j : Nat, j ≤ l.length ∧ i = .int .i64 j ∧ u = .int .u32 (U (BitVec.ofNat 32 (256 ^ j))) ∧ h = .int .u32 (U (H + tailS (l.take j) 0))) (fun _ _ i => l.length - (intOf i).toNat)
        case atStart => exact ⟨0, Nat.zero_le _, rfl, by rw [U_ofNat]; rfl, by simp [tailS]⟩
        case round =>
          obtain ⟨j, hj, rfl, rfl, rfl⟩ := hrel
          by_cases hlt : j < l.length
          · have hx := byte_hi l[j]
            go_wp2
            go_round
            case rel => exact ⟨j + 1, by omega, by go_num, by rw [unitU], by rw [tailV, List.take_succ_eq_append_getElem hlt, tail_snoc, BitVec.add_assoc]; simp [Nat.min_eq_left hj]⟩
            case measure => simp [intOf]; omega
          · obtain rfl : j = l.length := by omega
            go_wp2
            go_ret
            exact ⟨by rw [HH.out]; exact ret_int (endU _), hg⟩
end Go.Proofs.Ytpkbifaeofcckaa
