/- Layer 6 (bloom): the probes of a key, set and asked. -/
import Derived.Test.YtpkbifaeofcckaaBloomHash
import Derived.Test.YtpkbifaeofcckaaBloomBits
import Derived.Test.YtpkbifaeofcckaaBlk
namespace Go.Proofs.Ytpkbifaeofcckaa
set_option linter.unusedVariables false
set_option linter.unusedSimpArgs false
open Go.RowKit Bloom
theorem elemB : Elem Try.prog 30 5 (.int .u8 0) 1 1 := ⟨by kernel_rfl, by kernel_rfl, rfl, by decide⟩
theorem and7 (n : Nat) (h : n < 4294967296) : bits .and .u32 (n : Int) 7 = ((n % 8 : Nat) : Int) := by
  have h1 := u32_and_nat n 7 h (by decide)
  have h2 : n &&& 7 = n % 8 := Nat.and_two_pow_sub_one_eq_mod n 3
  rw [h2] at h1
  exact h1
theorem or_pow (x : UInt8) (r : Nat) (h : r < 8) : bits .or .u8 (x.toNat : Int) (2 ^ r % 256) = ((UInt8.ofNat (x.toNat ||| 2 ^ r)).toNat : Int) := by
  have h2 : 2 ^ r < 256 := Nat.pow_lt_pow_right (by decide) (show r < 8 from h)
  have h1 := u8_or_nat x.toNat (2 ^ r) x.toNat_lt h2
  have h3 : x.toNat ||| 2 ^ r < 2 ^ 8 := Nat.or_lt_two_pow x.toNat_lt h2
  have e : (2 : Int) ^ r % 256 = ((2 ^ r : Nat) : Int) := by
    have : (2 : Int) ^ r = ((2 ^ r : Nat) : Int) := by simp
    rw [this]
    generalize 2 ^ r = y at h2 ⊢
    omega
  rw [UInt8.toNat_ofNat', Nat.mod_eq_of_lt h3, ← h1, e]
set_option maxRecDepth 100000 in
set_option maxHeartbeats 1000000 in
theorem set_any (g8 gb n cap base p : Nat) (on : Nat → Bool) (w : World) (hs : w.cell? ⟨g8, 0, none⟩ = some (.slice (some ⟨gb, 0, none⟩) n cap)) (ho : Owns w base 5 1 (some ⟨gb, 0, none⟩) cap n (bv (rowF on n))) (hp : p < 8 * n) (hn : n ≤ 500000000) :
    Calls Try.prog 22 #[.int .u32 (p : Int), .pointer (some ⟨g8, 0, none⟩)] w fun e w' => e = .returned (.bool true) ∧ Owns w' base 5 1 (some ⟨gb, 0, none⟩) cap n (bv (rowF (addB on p) n)) ∧ w.grownBy w' (some gb) := by
  have h7 := and7 p (by omega)
  have hq : p / 8 < n := by omega
  have hl : p / 8 < (rowF on n).length := by rw [rowF_len]; exact hq
  obtain ⟨_, e0, _, hc⟩ := ho.at (bv_get _ _ hl)
  cases e0
  rw [rowF_get] at hc
  have hf := ho.unfrozen (i := p / 8) rfl (by omega)
  have h8 : p % 8 < 8 := by omega
  have hy := or_pow (byteF on (p / 8)) (p % 8) h8
  have hr : (p : Int) % 8 < 8 := by omega
  have hr0 : 0 ≤ (p : Int) % 8 := by omega
  have hby : (UInt8.ofNat ((byteF on (p / 8)).toNat ||| 2 ^ (p % 8))).toNat = byteN on (p / 8) 8 ||| 2 ^ (p % 8) := by
    have h2 : 2 ^ (p % 8) < 256 := Nat.pow_lt_pow_right (by decide) (show p % 8 < 8 from h8)
    rw [UInt8.toNat_ofNat', Nat.mod_eq_of_lt (Nat.or_lt_two_pow (by exact (byteF on (p / 8)).toNat_lt) h2), byteF_nat]
  have ho2 := ho.store rfl hq (.int .u8 ((UInt8.ofNat ((byteF on (p / 8)).toNat ||| 2 ^ (p % 8))).toNat : Int))
  rw [bv_set, row_set on n p hq _ hby] at ho2
  have HY := Lib.hid hy
  clear hby hy
  go_enter Try.func22, Try.ntmps22
  go_wp2
  go_ret
  rw [HY.out]
  exact ⟨rfl, ho2, grown_set _ _ _ _⟩
theorem rot_any (h : BitVec 32) (w : World) : Calls Try.prog 26 #[.int .u32 (U h), .int .i64 (-17)] w fun e w' => e = .returned (.int .u32 (U (dF h))) ∧ w = w' := by
  have hU0 := U_lo h
  have hU1 := U_hi h
  have e1 : bits BinOp.and IntKind.u64 (IntKind.u64.wrap (-17)) 31 = 15 := by decide
  have e2 := U_shl h 32768 15 rfl
  have e3 := U_shr h 131072 17 rfl
  have e4 := U_or (h <<< 15) (h >>> 17)
  go_enter Try.func26, Try.ntmps26
  go_wp2
  go_ret
  exact ⟨rfl, rfl⟩
theorem set_at (X : Int) (g8 gb n cap base p : Nat) (on : Nat → Bool) (w : World) (hX : X = (p : Int)) (hs : w.cell? ⟨g8, 0, none⟩ = some (.slice (some ⟨gb, 0, none⟩) n cap)) (ho : Owns w base 5 1 (some ⟨gb, 0, none⟩) cap n (bv (rowF on n))) (hp : p < 8 * n) (hn : n ≤ 500000000) :
    Calls Try.prog 22 #[.int .u32 X, .pointer (some ⟨g8, 0, none⟩)] w fun e w' => e = .returned (.bool true) ∧ Owns w' base 5 1 (some ⟨gb, 0, none⟩) cap n (bv (rowF (addB on p) n)) ∧ w.grownBy w' (some gb) := by
  subst hX; exact set_any g8 gb n cap base p on w hs ho hp hn
theorem U_mod (a : BitVec 32) (m : Nat) : U a % (m : Int) = ((a.toNat % m : Nat) : Int) := by
  unfold U; simp
set_option maxRecDepth 100000 in
set_option maxHeartbeats 1000000 in
theorem eachB_any (key : List UInt8) (g8 gb n cap base k : Nat) (on : Nat → Bool) (w : World) (hm : key.length ≤ 9223372036854775807) (hs : w.cell? ⟨g8, 0, none⟩ = some (.slice (some ⟨gb, 0, none⟩) n cap)) (hne : g8 ≠ gb) (ho : Owns w base 5 1 (some ⟨gb, 0, none⟩) cap n (bv (rowF on n))) (hn0 : 0 < n) (hn : n ≤ 500000000) (hk : k ≤ 255) :
    Calls Try.prog 21 #[.string (str key), .int .i64 (8 * (n : Int)), .int .i64 (k : Int), .func (.func 22) #[] #[.pointer (some ⟨g8, 0, none⟩)]] w fun e w' => e = .returned (.bool true) ∧ Owns w' base 5 1 (some ⟨gb, 0, none⟩) cap n (bv (rowF (fun p => on p || probesF (hashF key) (8 * n) k p) n)) ∧ w.grownBy w' (some gb) := by
  have HH := Lib.hid (fun w => Hash_any key w hm)
  generalize hashF key = h at *
  have hU0 := U_lo h
  have hU1 := U_hi h
  go_enter Try.func21, Try.ntmps21
  have hsz : 8 * (n : Int) < 4294967296 := by omega
  go_wp2_with (first | (go_at_call 11; refine (HH.out _).mono ?_; rintro e w1 ⟨rfl, g1⟩) | (go_at_call 26; refine (rot_any h _).mono ?_; rintro e w' ⟨rfl, rfl⟩))
  go_loopw [9, 16] (fun v i wr => ∃ j : Nat, j ≤ k ∧ i = .int .i64 (j : Int) ∧ v = .int .u32 (U (atF h j)) ∧ Owns wr base 5 1 (some ⟨gb, 0, none⟩) cap n (bv (rowF (fun p => on p || probesF h (8 * n) j p) n)) ∧ w.grownBy wr (some gb)) (fun _ i _ => k - (intOf i).toNat)
  case atStart => exact ⟨0, Nat.zero_le _, rfl, by rw [atF_zero], by simp only [probesF_zero, Bool.or_false]; exact ho.gr g1, g1.far⟩
  case round =>
    obtain ⟨j, hj, rfl, rfl, ho2, hg⟩ := hrel
    by_cases hlt : j < k
    · have hs2 := hg.cell hs (fun e => hne (by injection e))
      have hu0 := U_lo (atF h j)
      have hu1 := U_hi (atF h j)
      have hA := U_add (atF h j) (dF h)
      have hv0 := U_lo (dF h)
      have hv1 := U_hi (dF h)
      have hp : bitAt h (8 * n) j < 8 * n := Nat.mod_lt _ (by omega)
      have hmod : U (atF h j) % (8 * (n : Int)) = (bitAt h (8 * n) j : Int) := by
        have := U_mod (atF h j) (8 * n)
        rw [show ((8 * n : Nat) : Int) = 8 * (n : Int) by omega] at this
        exact this
      have HM := Lib.hid hmod
      rw [← atF_succ] at hA
      have HA := Lib.hid hA
      clear hmod hA
      go_wp2_with (go_at_call 22; refine (set_at _ g8 gb n cap base _ _ _ HM.out hs2 ho2 hp hn).mono ?_; rintro e w3 ⟨rfl, ho3, hg3⟩)
      go_roundw
      case rel => exact ⟨j + 1, by omega, by go_num, by rw [HA.out], by
        have : (fun p => on p || probesF h (8 * n) (j + 1) p) = addB (fun p => on p || probesF h (8 * n) j p) (bitAt h (8 * n) j) := by
          funext p
          unfold addB
          rw [probesF_succ, Bool.or_assoc]
        rw [this]; exact ho3, grown_trans hg hg3⟩
      case measure => simp [intOf]; omega
    · obtain rfl : j = k := by omega
      go_wp2
      go_ret
      exact ⟨rfl, ho2, hg⟩
theorem and1 (x r : Nat) (h : x < 256) : bits .and .u8 ((x : Int) / 2 ^ r) 1 = ((x / 2 ^ r % 2 : Nat) : Int) := by
  have e : (x : Int) / 2 ^ r = ((x / 2 ^ r : Nat) : Int) := by simp
  have h0 : x / 2 ^ r < 256 := Nat.lt_of_le_of_lt (Nat.div_le_self _ _) h
  have h1 := u8_and_nat (x / 2 ^ r) 1 h0 (by decide)
  rw [Nat.and_one_is_mod] at h1
  rw [e]
  exact h1
theorem bit_at {l : List UInt8} {p : Nat} (h : p / 8 < l.length) : bitOf l p = decide ((l[p / 8]).toNat / 2 ^ (p % 8) % 2 = 1) := by
  unfold bitOf
  rw [List.getD_eq_getElem?_getD, List.getElem?_eq_getElem h, Option.getD_some, Nat.testBit_eq_decide_div_mod_eq]
set_option maxRecDepth 100000 in
set_option maxHeartbeats 1000000 in
theorem ask_any (X : Int) (g8 cap p : Nat) (ad : Option Addr) (l : List UInt8) (w : World) (hX : X = (p : Int)) (hs : w.cell? ⟨g8, 0, none⟩ = some (.slice ad l.length cap)) (hb : Bytes w ad l) (hp : p < 8 * l.length) (hn : l.length ≤ 500000000) :
    Calls Try.prog 25 #[.int .u32 X, .pointer (some ⟨g8, 0, none⟩)] w fun e w' => e = .returned (.bool (bitOf l p)) ∧ w = w' := by
  subst hX
  have h7 := and7 p (by omega)
  have hq : p / 8 < l.length := by omega
  obtain ⟨b, off, rfl, hc⟩ := hb _ hq
  have h8 : p % 8 < 8 := by omega
  have hx := byte_hi (l[p / 8])
  have ha := and1 (l[p / 8]).toNat (p % 8) (l[p / 8]).toNat_lt
  have hbt := bit_at hq
  have hr : (p : Int) % 8 < 8 := by omega
  have hr0 : 0 ≤ (p : Int) % 8 := by omega
  have HA := Lib.hid ha
  have HB := Lib.hid hbt
  clear ha hbt
  go_enter Try.func25, Try.ntmps25
  go_wp2
  go_ret
  rw [HA.out, HB.out]
  refine ⟨?_, rfl⟩
  show Ending.returned (.bool _) = _
  congr 2
  rw [Bool.eq_iff_iff, beq_iff_eq, decide_eq_true_iff]
  omega
set_option maxRecDepth 100000 in
set_option maxHeartbeats 1000000 in
theorem eachM_any (key : List UInt8) (g8 cap k : Nat) (ad : Option Addr) (l : List UInt8) (w : World) (hm : key.length ≤ 9223372036854775807) (hs : w.cell? ⟨g8, 0, none⟩ = some (.slice ad l.length cap)) (hb : Bytes w ad l) (hn0 : 0 < l.length) (hn : l.length ≤ 500000000) (hk : k ≤ 255) :
    Calls Try.prog 21 #[.string (str key), .int .i64 (8 * (l.length : Int)), .int .i64 (k : Int), .func (.func 25) #[] #[.pointer (some ⟨g8, 0, none⟩)]] w fun e w' => e = .returned (.bool (allF l (hashF key) (8 * l.length) k)) ∧ Gr w w' := by
  have HH := Lib.hid (fun w => Hash_any key w hm)
  generalize hashF key = h at *
  have hU0 := U_lo h
  have hU1 := U_hi h
  have HN := Lib.hid (show l.length = l.length from rfl)
  have hsz : 8 * (l.length : Int) < 4294967296 := by omega
  go_enter Try.func21, Try.ntmps21
  go_wp2_with (first | (go_at_call 11; refine (HH.out _).mono ?_; rintro e w1 ⟨rfl, g1⟩) | (go_at_call 26; refine (rot_any h _).mono ?_; rintro e w' ⟨rfl, rfl⟩))
  have hs1 := g1.cell hs
  have hb1 := hb.gr g1
  go_loop [9, 16] (fun v i => ∃ j : Nat, j ≤ k ∧ i = .int .i64 (j : Int) ∧ v = .int .u32 (U (atF h j)) ∧ ∀ j', j' < j → bitOf l (bitAt h (8 * l.length) j') = true) (fun _ i => k - (intOf i).toNat)
  case atStart => exact ⟨0, Nat.zero_le _, rfl, by rw [atF_zero], fun j' h => by omega⟩
  case round =>
    obtain ⟨j, hj, rfl, rfl, hall⟩ := hrel
    have HALL := Lib.hid hall; clear hall
    by_cases hlt : j < k
    · have hu0 := U_lo (atF h j)
      have hu1 := U_hi (atF h j)
      have hA := U_add (atF h j) (dF h)
      have hv0 := U_lo (dF h)
      have hv1 := U_hi (dF h)
      have hp : bitAt h (8 * l.length) j < 8 * l.length := Nat.mod_lt _ (by omega)
      have hmod : U (atF h j) % (8 * (l.length : Int)) = (bitAt h (8 * l.length) j : Int) := by
        have := U_mod (atF h j) (8 * l.length)
        rw [show ((8 * l.length : Nat) : Int) = 8 * (l.length : Int) by omega] at this
        exact this
      have HM := Lib.hid hmod
      rw [← atF_succ] at hA
      have HA := Lib.hid hA
      clear hmod hA
      have HC := Lib.hid (fun X hX => ask_any X g8 cap (bitAt h (8 * l.length) j) ad l w1 hX hs1 hb1 hp hn)
      cases hbit : bitOf l (bitAt h (8 * l.length) j) with
      | true =>
        rw [hbit] at HC
        have HB := Lib.hid hbit; clear hbit
        go_wp2_with (go_at_call 25; refine (HC.out _ HM.out).mono ?_; rintro e w3 ⟨rfl, rfl⟩)
        go_round
        case rel => exact ⟨j + 1, by omega, by go_num, by rw [HA.out], fun j' h' => by
          by_cases e : j' = j
          · rw [e]; exact HB.out
          · exact HALL.out j' (by omega)⟩
        case measure => simp [intOf]; omega
      | false =>
        rw [hbit] at HC
        have HR := Lib.hid (allF_no hlt hbit); clear hbit
        go_wp2_with (go_at_call 25; refine (HC.out _ HM.out).mono ?_; rintro e w3 ⟨rfl, rfl⟩)
        go_ret
        exact ⟨by rw [HR.out]; rfl, g1⟩
    · obtain rfl : j = k := by omega
      have HR := Lib.hid (allF_yes HALL.out)
      go_wp2
      go_ret
      exact ⟨by rw [HR.out]; rfl, g1⟩
end Go.Proofs.Ytpkbifaeofcckaa
