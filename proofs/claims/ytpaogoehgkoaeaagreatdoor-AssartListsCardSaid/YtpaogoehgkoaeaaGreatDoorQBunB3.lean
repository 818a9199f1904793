/- Layer 1 (region): Free walked. -/
import Derived.Test.YtpaogoehgkoaeaaGreatDoorQBunB2
import Derived.Test.YtpaogoehgkoaeaaGreatDoorQBunB0
import Derived.Outline
import Derived.Test.YtpaogoehgkoaeaaGreatDoorRows
import Derived.Test.YtpaogoehgkoaeaaGreatDoorQBunB1
import Derived.Lib.SliceRun
/- Layer 6 (bloom): the probes of a key, set and asked. -/
namespace Go.Proofs.YtpaogoehgkoaeaaGreatDoor
set_option linter.unusedVariables false
set_option linter.unusedSimpArgs false
open Go.RowKit Bloom
theorem and7 (n : Nat) (h : n < 4294967296) : bits .and .u32 (n : Int) 7 = ((n % 8 : Nat) : Int) := by
  have h1 := u32_and_nat n 7 h (by decide)
  have h2 : n &&& 7 = n % 8 := Nat.and_two_pow_sub_one_eq_mod n 3
  rw [h2] at h1
  exact h1
theorem or_pow (x : UInt8) (r : Nat) (h : r < 8) : bits .or .u8 (x.toNat : Int) (2 ^ r % 256) = ((UInt8.ofNat (x.toNat ||| 2 ^ r)).toNat : Int) := by
  have h2 : 2 ^ r < 256 := Nat.pow_lt_pow_right (by decide) (show r < 8 from h)
  have h1 := u8_or_nat x.toNat (2 ^ r) x.toNat_lt h2
  have h3 : x.toNat ||| 2 ^ r < 2 ^ 8 := Nat.or_lt_two_pow x.toNat_lt h2
  have e : (2 : Int) ^ r % 256 = ((2 ^ r : Nat) : Int) := by
    have : (2 : Int) ^ r = ((2 ^ r : Nat) : Int) := by simp
    rw [this]
    generalize 2 ^ r = y at h2 ⊢
    omega
  rw [UInt8.toNat_ofNat', Nat.mod_eq_of_lt h3, ← h1, e]
set_option maxRecDepth 100000 in
set_option maxHeartbeats 1000000 in
theorem set_any (g8 gb n cap base p : Nat) (on : Nat → Bool) (w : World) (hs : w.cell? ⟨g8, 0, none⟩ = some (.slice (some ⟨gb, 0, none⟩) n cap)) (ho : Owns w base 5 1 (some ⟨gb, 0, none⟩) cap n (bv (rowF on n))) (hp : p < 8 * n) (hn : n ≤ 500000000) :
    Calls Tryz.prog 91 #[.int .u32 (p : Int), .pointer (some ⟨g8, 0, none⟩)] w fun e w' => e = .returned (.bool true) ∧ Owns w' base 5 1 (some ⟨gb, 0, none⟩) cap n (bv (rowF (addB on p) n)) ∧ w.grownBy w' (some gb) := by
  have h7 := and7 p (by omega)
  have hq : p / 8 < n := by omega
  have hl : p / 8 < (rowF on n).length := by rw [rowF_len]; exact hq
  obtain ⟨_, e0, _, hc⟩ := ho.at (bv_get _ _ hl)
  cases e0
  rw [rowF_get] at hc
  have hf := ho.unfrozen (i := p / 8) rfl (by omega)
  have h8 : p % 8 < 8 := by omega
  have hy := or_pow (byteF on (p / 8)) (p % 8) h8
  have hr : (p : Int) % 8 < 8 := by omega
  have hr0 : 0 ≤ (p : Int) % 8 := by omega
  have hby : (UInt8.ofNat ((byteF on (p / 8)).toNat ||| 2 ^ (p % 8))).toNat = byteN on (p / 8) 8 ||| 2 ^ (p % 8) := by
    have h2 : 2 ^ (p % 8) < 256 := Nat.pow_lt_pow_right (by decide) (show p % 8 < 8 from h8)
    rw [UInt8.toNat_ofNat', Nat.mod_eq_of_lt (Nat.or_lt_two_pow (by exact (byteF on (p / 8)).toNat_lt) h2), byteF_nat]
  have ho2 := ho.store rfl hq (.int .u8 ((UInt8.ofNat ((byteF on (p / 8)).toNat ||| 2 ^ (p % 8))).toNat : Int))
  rw [bv_set, row_set on n p hq _ hby] at ho2
  have HY := Lib.hid hy
  clear hby hy
  go_enter Tryz.func91, Tryz.ntmps91
  go_wp2
  go_ret
  rw [HY.out]
  exact ⟨rfl, ho2, grown_set _ _ _ _⟩
theorem rot_any (h : BitVec 32) (w : World) : Calls Tryz.prog 133 #[.int .u32 (U h), .int .i64 (-17)] w fun e w' => e = .returned (.int .u32 (U (dF h))) ∧ w = w' := by
  have hU0 := U_lo h
  have hU1 := U_hi h
  have e1 : bits BinOp.and IntKind.u64 (IntKind.u64.wrap (-17)) 31 = 15 := by decide
  have e2 := U_shl h 32768 15 rfl
  have e3 := U_shr h 131072 17 rfl
  have e4 := U_or (h <<< 15) (h >>> 17)
  go_enter Tryz.func133, Tryz.ntmps133
  go_wp2
  go_ret
  exact ⟨rfl, rfl⟩
theorem set_at (X : Int) (g8 gb n cap base p : Nat) (on : Nat → Bool) (w : World) (hX : X = (p : Int)) (hs : w.cell? ⟨g8, 0, none⟩ = some (.slice (some ⟨gb, 0, none⟩) n cap)) (ho : Owns w base 5 1 (some ⟨gb, 0, none⟩) cap n (bv (rowF on n))) (hp : p < 8 * n) (hn : n ≤ 500000000) :
    Calls Tryz.prog 91 #[.int .u32 X, .pointer (some ⟨g8, 0, none⟩)] w fun e w' => e = .returned (.bool true) ∧ Owns w' base 5 1 (some ⟨gb, 0, none⟩) cap n (bv (rowF (addB on p) n)) ∧ w.grownBy w' (some gb) := by
  subst hX; exact set_any g8 gb n cap base p on w hs ho hp hn
theorem U_mod (a : BitVec 32) (m : Nat) : U a % (m : Int) = ((a.toNat % m : Nat) : Int) := by
  unfold U; simp
set_option maxRecDepth 100000 in
set_option maxHeartbeats 1000000 in
theorem eachB_any (key : List UInt8) (g8 gb n cap base k : Nat) (on : Nat → Bool) (w : World) (hm : key.length ≤ 9223372036854775807) (hs : w.cell? ⟨g8, 0, none⟩ = some (.slice (some ⟨gb, 0, none⟩) n cap)) (hne : g8 ≠ gb) (ho : Owns w base 5 1 (some ⟨gb, 0, none⟩) cap n (bv (rowF on n))) (hn0 : 0 < n) (hn : n ≤ 500000000) (hk : k ≤ 255) :
    Calls Tryz.prog 90 #[.string (str key), .int .i64 (8 * (n : Int)), .int .i64 (k : Int), .func (.func 91) #[] #[.pointer (some ⟨g8, 0, none⟩)]] w fun e w' => e = .returned (.bool true) ∧ Owns w' base 5 1 (some ⟨gb, 0, none⟩) cap n (bv (rowF (fun p => on p || probesF (hashF key) (8 * n) k p) n)) ∧ w.grownBy w' (some gb) := by
  have HH := Lib.hid (fun w => Hash_any key w hm)
  generalize hashF key = h at *
  have hU0 := U_lo h
  have hU1 := U_hi h
  go_enter Tryz.func90, Tryz.ntmps90
  have hsz : 8 * (n : Int) < 4294967296 := by omega
  go_wp2_with (first | (go_at_call 132; refine (HH.out _).mono ?_; rintro e w1 ⟨rfl, g1⟩) | (go_at_call 133; refine (rot_any h _).mono ?_; rintro e w' ⟨rfl, rfl⟩))
  go_loopw [9, 16] (fun v i wr => ∃ j : Nat, j ≤ k ∧ i = .int .i64 (j : Int) ∧ v = .int .u32 (U (atF h j)) ∧ Owns wr base 5 1 (some ⟨gb, 0, none⟩) cap n (bv (rowF (fun p => on p || probesF h (8 * n) j p) n)) ∧ w.grownBy wr (some gb)) (fun _ i _ => k - (intOf i).toNat)
  case atStart => exact ⟨0, Nat.zero_le _, rfl, by rw [atF_zero], by simp only [probesF_zero, Bool.or_false]; exact ho.gr g1, g1.far⟩
  case round =>
    obtain ⟨j, hj, rfl, rfl, ho2, hg⟩ := hrel
    by_cases hlt : j < k
    · have hs2 := hg.cell hs (fun e => hne (by injection e))
      have hu0 := U_lo (atF h j)
      have hu1 := U_hi (atF h j)
      have hA := U_add (atF h j) (dF h)
      have hv0 := U_lo (dF h)
      have hv1 := U_hi (dF h)
      have hp : bitAt h (8 * n) j < 8 * n := Nat.mod_lt _ (by omega)
      have hmod : U (atF h j) % (8 * (n : Int)) = (bitAt h (8 * n) j : Int) := by
        have := U_mod (atF h j) (8 * n)
        rw [show ((8 * n : Nat) : Int) = 8 * (n : Int) by omega] at this
        exact this
      have HM := Lib.hid hmod
      rw [← atF_succ] at hA
      have HA := Lib.hid hA
      clear hmod hA
      go_wp2_with (go_at_call 91; refine (set_at _ g8 gb n cap base _ _ _ HM.out hs2 ho2 hp hn).mono ?_; rintro e w3 ⟨rfl, ho3, hg3⟩)
      go_roundw
      case rel => exact ⟨j + 1, by omega, by go_num, by rw [HA.out], by
        have : (fun p => on p || probesF h (8 * n) (j + 1) p) = addB (fun p => on p || probesF h (8 * n) j p) (bitAt h (8 * n) j) := by
          funext p
          unfold addB
          rw [probesF_succ, Bool.or_assoc]
        rw [this]; exact ho3, grown_trans hg hg3⟩
      case measure => simp [intOf]; omega
    · obtain rfl : j = k := by omega
      go_wp2
      go_ret
      exact ⟨rfl, ho2, hg⟩
theorem and1 (x r : Nat) (h : x < 256) : bits .and .u8 ((x : Int) / 2 ^ r) 1 = ((x / 2 ^ r % 2 : Nat) : Int) := by
  have e : (x : Int) / 2 ^ r = ((x / 2 ^ r : Nat) : Int) := by simp
  have h0 : x / 2 ^ r < 256 := Nat.lt_of_le_of_lt (Nat.div_le_self _ _) h
  have h1 := u8_and_nat (x / 2 ^ r) 1 h0 (by decide)
  rw [Nat.and_one_is_mod] at h1
  rw [e]
  exact h1
theorem bit_at {l : List UInt8} {p : Nat} (h : p / 8 < l.length) : bitOf l p = decide ((l[p / 8]).toNat / 2 ^ (p % 8) % 2 = 1) := by
  unfold bitOf
  rw [List.getD_eq_getElem?_getD, List.getElem?_eq_getElem h, Option.getD_some, Nat.testBit_eq_decide_div_mod_eq]
set_option maxRecDepth 100000 in
set_option maxHeartbeats 1000000 in
theorem ask_any (X : Int) (g8 cap p : Nat) (ad : Option Addr) (l : List UInt8) (w : World) (hX : X = (p : Int)) (hs : w.cell? ⟨g8, 0, none⟩ = some (.slice ad l.length cap)) (hb : Bytes w ad l) (hp : p < 8 * l.length) (hn : l.length ≤ 500000000) :
    Calls Tryz.prog 156 #[.int .u32 X, .pointer (some ⟨g8, 0, none⟩)] w fun e w' => e = .returned (.bool (bitOf l p)) ∧ w = w' := by
  subst hX
  have h7 := and7 p (by omega)
  have hq : p / 8 < l.length := by omega
  obtain ⟨b, off, rfl, hc⟩ := hb _ hq
  have h8 : p % 8 < 8 := by omega
  have hx := byte_hi (l[p / 8])
  have ha := and1 (l[p / 8]).toNat (p % 8) (l[p / 8]).toNat_lt
  have hbt := bit_at hq
  have hr : (p : Int) % 8 < 8 := by omega
  have hr0 : 0 ≤ (p : Int) % 8 := by omega
  have HA := Lib.hid ha
  have HB := Lib.hid hbt
  clear ha hbt
  go_enter Tryz.func156, Tryz.ntmps156
  go_wp2
  go_ret
  rw [HA.out, HB.out]
  refine ⟨?_, rfl⟩
  show Ending.returned (.bool _) = _
  congr 2
  rw [Bool.eq_iff_iff, beq_iff_eq, decide_eq_true_iff]
  omega
set_option maxRecDepth 100000 in
set_option maxHeartbeats 1000000 in
theorem eachM_any (key : List UInt8) (g8 cap k : Nat) (ad : Option Addr) (l : List UInt8) (w : World) (hm : key.length ≤ 9223372036854775807) (hs : w.cell? ⟨g8, 0, none⟩ = some (.slice ad l.length cap)) (hb : Bytes w ad l) (hn0 : 0 < l.length) (hn : l.length ≤ 500000000) (hk : k ≤ 255) :
    Calls Tryz.prog 90 #[.string (str key), .int .i64 (8 * (l.length : Int)), .int .i64 (k : Int), .func (.func 156) #[] #[.pointer (some ⟨g8, 0, none⟩)]] w fun e w' => e = .returned (.bool (allF l (hashF key) (8 * l.length) k)) ∧ Gr w w' := by
  have HH := Lib.hid (fun w => Hash_any key w hm)
  generalize hashF key = h at *
  have hU0 := U_lo h
  have hU1 := U_hi h
  have HN := Lib.hid (show l.length = l.length from rfl)
  have hsz : 8 * (l.length : Int) < 4294967296 := by omega
  go_enter Tryz.func90, Tryz.ntmps90
  go_wp2_with (first | (go_at_call 132; refine (HH.out _).mono ?_; rintro e w1 ⟨rfl, g1⟩) | (go_at_call 133; refine (rot_any h _).mono ?_; rintro e w' ⟨rfl, rfl⟩))
  have hs1 := g1.cell hs
  have hb1 := hb.gr g1
  go_loop [9, 16] (fun v i => ∃ j : Nat, j ≤ k ∧ i = .int .i64 (j : Int) ∧ v = .int .u32 (U (atF h j)) ∧ ∀ j', j' < j → bitOf l (bitAt h (8 * l.length) j') = true) (fun _ i => k - (intOf i).toNat)
  case atStart => exact ⟨0, Nat.zero_le _, rfl, by rw [atF_zero], fun j' h => by omega⟩
  case round =>
    obtain ⟨j, hj, rfl, rfl, hall⟩ := hrel
    have HALL := Lib.hid hall; clear hall
    by_cases hlt : j < k
    · have hu0 := U_lo (atF h j)
      have hu1 := U_hi (atF h j)
      have hA := U_add (atF h j) (dF h)
      have hv0 := U_lo (dF h)
      have hv1 := U_hi (dF h)
      have hp : bitAt h (8 * l.length) j < 8 * l.length := Nat.mod_lt _ (by omega)
      have hmod : U (atF h j) % (8 * (l.length : Int)) = (bitAt h (8 * l.length) j : Int) := by
        have := U_mod (atF h j) (8 * l.length)
        rw [show ((8 * l.length : Nat) : Int) = 8 * (l.length : Int) by omega] at this
        exact this
      have HM := Lib.hid hmod
      rw [← atF_succ] at hA
      have HA := Lib.hid hA
      clear hmod hA
      have HC := Lib.hid (fun X hX => ask_any X g8 cap (bitAt h (8 * l.length) j) ad l w1 hX hs1 hb1 hp hn)
      cases hbit : bitOf l (bitAt h (8 * l.length) j) with
      | true =>
        rw [hbit] at HC
        have HB := Lib.hid hbit; clear hbit
        go_wp2_with (go_at_call 156; refine (HC.out _ HM.out).mono ?_; rintro e w3 ⟨rfl, rfl⟩)
        go_round
        case rel => exact ⟨j + 1, by omega, by go_num, by rw [HA.out], fun j' h' => by
          by_cases e : j' = j
          · rw [e]; exact HB.out
          · exact HALL.out j' (by omega)⟩
        case measure => simp [intOf]; omega
      | false =>
        rw [hbit] at HC
        have HR := Lib.hid (allF_no hlt hbit); clear hbit
        go_wp2_with (go_at_call 156; refine (HC.out _ HM.out).mono ?_; rintro e w3 ⟨rfl, rfl⟩)
        go_ret
        exact ⟨by rw [HR.out]; rfl, g1⟩
    · obtain rfl : j = k := by omega
      have HR := Lib.hid (allF_yes HALL.out)
      go_wp2
      go_ret
      exact ⟨by rw [HR.out]; rfl, g1⟩
end Go.Proofs.YtpaogoehgkoaeaaGreatDoor
/- Layer 6 (bloom): filters are built. -/
namespace Go.Proofs.YtpaogoehgkoaeaaGreatDoor
set_option linter.unusedVariables false
set_option linter.unusedSimpArgs false
open Go.RowKit Bloom
/-- keys, as Go's values -/
def sv (l : List (List UInt8)) : List Value := l.map fun s => .string (str s)
theorem sv_get (l : List (List UInt8)) (i : Nat) (h : i < l.length) : (sv l)[i]? = some (.string (str l[i])) := by simp [sv, h]
/-- no key is longer than any text -/
def Short (l : List (List UInt8)) : Prop := ∀ s ∈ l, s.length ≤ 9223372036854775807
theorem Short.at_ {l : List (List UInt8)} (h : Short l) (i : Nat) (hi : i < l.length) : l[i].length ≤ 9223372036854775807 := h _ (List.getElem_mem hi)
def kF (bits : Nat) : Nat := min (max (bits * 69 / 100) 1) 30
def nF (len bits : Nat) : Nat := (max (len * bits) 64 + 7) / 8
def filterF (keys : List (List UInt8)) (bits : Nat) : List UInt8 := rowF (onF keys (8 * nF keys.length bits) (kF bits)) (nF keys.length bits) ++ [UInt8.ofNat (kF bits)]
def buildF (keys : List (List UInt8)) (bits : Int) : List UInt8 × Nat :=
  if bits < 1 ∨ 64 < bits then ([], 1) else if 100000 < keys.length then ([], 14) else (filterF keys bits.toNat, 0)
theorem zero_row (n : Nat) : List.replicate n (0 : UInt8) = rowF (fun _ => false) n := by
  apply List.ext_getElem
  · simp [rowF_len]
  · intro i h1 h2
    rw [rowF_get, List.getElem_replicate]
    apply UInt8.toNat_inj.1
    rw [byteF_nat]
    have : byteN (fun _ => false) i 8 = byteN (fun _ => false) i 0 := byteN_cut (Nat.zero_le _) (fun _ _ _ => rfl)
    rw [this]; rfl
set_option maxRecDepth 100000 in
set_option maxHeartbeats 1000000 in
theorem bBuild_any (ad : Option Addr) (cap : Nat) (keys : List (List UInt8)) (bits : Int) (w : World) (hm : keys.length ≤ 9223372036854775807) (hr : Row w ad (sv keys)) (hsh : Short keys) (h1 : -9223372036854775808 ≤ bits) (h2 : bits ≤ 9223372036854775807) :
    Calls Tryz.prog 42 #[.slice ad keys.length cap, .int .i64 bits] w (RetBE 5 w (buildF keys bits).1 (buildF keys bits).2) := by
  by_cases hb : bits < 1 ∨ 64 < bits
  · have H := Lib.hid (show buildF keys bits = ([], 1) by unfold buildF; rw [if_pos hb])
    rcases hb with hb | hb
    all_goals
      go_enter Tryz.func42, Tryz.ntmps42
      go_wp2
      go_ret2
      refine ⟨none, 0, ?_, ?_, Gr.refl _⟩
      · rw [H.out]; rfl
      · rw [H.out]; exact Owns.empty _ _ _ _
  · obtain ⟨b, rfl⟩ := Int.eq_ofNat_of_zero_le (show 0 ≤ bits by omega)
    have hb1 : 1 ≤ b := by omega
    have hb2 : b ≤ 64 := by omega
    clear h1 h2
    by_cases hk : 100000 < keys.length
    · have H := Lib.hid (show buildF keys b = ([], 14) by unfold buildF; rw [if_neg hb, if_pos hk])
      clear hb
      go_enter Tryz.func42, Tryz.ntmps42
      go_wp2
      go_ret2
      refine ⟨none, 0, ?_, ?_, Gr.refl _⟩
      · rw [H.out]; rfl
      · rw [H.out]; exact Owns.empty _ _ _ _
    · have H := Lib.hid (show buildF keys b = (filterF keys b, 0) by unfold buildF; rw [if_neg hb, if_neg hk]; rfl)
      clear hb
      have hlen : keys.length ≤ 100000 := by omega
      have hprod : keys.length * b ≤ 100000 * 64 := Nat.mul_le_mul hlen hb2
      have hp0 : 0 ≤ (keys.length : Int) * (b : Int) := by have := Int.natCast_nonneg (keys.length * b); rw [Int.natCast_mul] at this; exact this
      have hp1 : (keys.length : Int) * (b : Int) ≤ 6400000 := by have h3 : ((keys.length * b : Nat) : Int) ≤ 6400000 := (by omega); rw [Int.natCast_mul] at h3; exact h3
      have hN : ((nF keys.length b : Nat) : Int) = (max ((keys.length : Int) * (b : Int)) 64 + 7) / 8 := by
        unfold nF
        have h3 : ((keys.length * b : Nat) : Int) = (keys.length : Int) * (b : Int) := Int.natCast_mul _ _
        omega
      have hn8 : 8 ≤ nF keys.length b := by unfold nF; omega
      have hn9 : nF keys.length b ≤ 800001 := by unfold nF; omega
      have hK : ((kF b : Nat) : Int) = min (max ((b : Int) * 69 / 100) 1) 30 := by unfold kF; omega
      have hk1 : 1 ≤ kF b := by unfold kF; omega
      have hk2 : kF b ≤ 30 := by unfold kF; omega
      have HF := Lib.hid (show filterF keys b = rowF (onF keys (8 * nF keys.length b) (kF b)) (nF keys.length b) ++ [UInt8.ofNat (kF b)] from rfl)
      generalize nF keys.length b = n at *
      generalize kF b = k at *
      have HN := Lib.hid hN; have HK := Lib.hid hK; clear hN hK
      have hm1 : n + 1 ≤ maxLen := by unfold maxLen; omega
      have hm2 : 1 * (n + 1) ≤ 281474976710656 := by omega
      go_enter Tryz.func42, Tryz.ntmps42
      go_wp2_with (at_make; go_must (refine wp_make elemB rfl rfl _ _ rfl n (n + 1) rfl rfl (by have := HN.out; omega) (by have := HN.out; omega) (Nat.le_succ n) hm1 hm2 ?_); intro w1 o1 g1 z1)
      rw [← HN.out, ← HK.out]
      have hbase := g1.size
      have o2 : Owns (w1.alloc (.cells #[.slice (some ⟨w.heap.size, 0, none⟩) n (n + 1)] 31)) w.heap.size 5 1 (some ⟨w.heap.size, 0, none⟩) (n + 1) n (bv (rowF (onF (keys.take 0) (8 * n) k) n)) := by
        have h3 := o1.gr (Gr.alloc w1 (.cells #[.slice (some ⟨w.heap.size, 0, none⟩) n (n + 1)] 31))
        rw [bv_replicate, zero_row] at h3
        exact h3
      have c2 : (w1.alloc (.cells #[.slice (some ⟨w.heap.size, 0, none⟩) n (n + 1)] 31)).cell? ⟨w.heap.size + 1, 0, none⟩ = some (.slice (some ⟨w.heap.size, 0, none⟩) n (n + 1)) := by
        have := (Blk.new w1 31 #[.slice (some ⟨w.heap.size, 0, none⟩) n (n + 1)]).cell (i := 0) rfl
        rw [z1] at this
        exact this
      have G2 := g1.trans (Gr.alloc w1 (.cells #[.slice (some ⟨w.heap.size, 0, none⟩) n (n + 1)] 31))
      clear o1 g1 z1 hbase
      have hne : w.heap.size + 1 ≠ w.heap.size := by omega
      have hn0 : 0 < n := by omega
      have hn5 : n ≤ 500000000 := by omega
      have hk5 : k ≤ 255 := by omega
      go_loopw [10, 40] (fun _ i wr => ∃ j : Nat, j ≤ keys.length ∧ i = .int .i64 (j : Int) ∧ Owns wr w.heap.size 5 1 (some ⟨w.heap.size, 0, none⟩) (n + 1) n (bv (rowF (onF (keys.take j) (8 * n) k) n)) ∧ wr.cell? ⟨w.heap.size + 1, 0, none⟩ = some (.slice (some ⟨w.heap.size, 0, none⟩) n (n + 1)) ∧ Gr w wr) (fun _ i _ => keys.length - (intOf i).toNat)
      case atStart => exact ⟨0, Nat.zero_le _, rfl, o2, c2, G2⟩
      case round =>
        obtain ⟨j, hj, rfl, ho, hc, hg⟩ := hrel
        by_cases hlt : j < keys.length
        · obtain ⟨bb, off, rfl, hcell⟩ := (hr.gr hg) j _ (sv_get keys j hlt)
          have HE := Lib.hid (fun w' hs ho => eachB_any keys[j] (w.heap.size + 1) w.heap.size n (n + 1) w.heap.size k (onF (keys.take j) (8 * n) k) w' (hsh.at_ j hlt) hs hne ho hn0 hn5 hk5)
          go_wp2_with (go_at_call 90; refine (HE.out _ hc ho).mono ?_; rintro e w3 ⟨rfl, ho3, hg3⟩)
          go_roundw
          case rel =>
            refine ⟨j + 1, by omega, by go_num, ?_, hg3.cell hc (fun e => hne (by injection e)), hg.of_far hg3 (Nat.le_refl _)⟩
            have : (fun p => onF (keys.take j) (8 * n) k p || probesF (hashF keys[j]) (8 * n) k p) = onF (keys.take (j + 1)) (8 * n) k := by
              funext p
              rw [onF_take keys j hlt]
            rw [← this]; exact ho3
          case measure => simp [intOf]; omega
        · obtain rfl : j = keys.length := by omega
          rw [List.take_length] at ho
          have HX := Lib.hid (show (k : Int) % 256 = ((UInt8.ofNat k).toNat : Int) by rw [UInt8.toNat_ofNat']; omega)
          have HX2 := Lib.hid (show (k : Int) = ((UInt8.ofNat k).toNat : Int) by rw [UInt8.toNat_ofNat']; omega)
          have hbs : w.heap.size ≤ (wr.alloc (.cells #[.int .u8 (k : Int)] 5)).heap.size := by have := hg.size; simp; omega
          have hm3 : (n + 1) * 1 ≤ 140737488355328 := by omega
          go_wp2_with (at_builtin; go_must (refine wp_append elemB rfl _ _ rfl rfl (ho.gr (Gr.alloc _ _)) rfl (Src.one _ _ (UInt8.ofNat k) HX2.out Tryz.underlying31) hm1 hm3 hbs ?_); intro ad2 cap2 w4 o4 k4 f4)
          go_ret2
          have hlf : (filterF keys b).length = n + 1 := by rw [HF.out]; simp [rowF_len]
          refine ⟨ad2, cap2, ?_, ?_, hg.app ho (Nat.le_refl _) k4⟩
          · rw [H.out]; simp only [hlf]; rfl
          · rw [H.out]; simp only [hlf]; rw [HF.out, bv_append]; exact o4
end Go.Proofs.YtpaogoehgkoaeaaGreatDoor
/- Layer 6 (bloom): filters are asked. -/
namespace Go.Proofs.YtpaogoehgkoaeaaGreatDoor
set_option linter.unusedVariables false
set_option linter.unusedSimpArgs false
open Go.RowKit Bloom
/-- has it a form? -/
def rightF (l : List UInt8) : Bool := decide (2 ≤ l.length) && decide (1 ≤ (l.getD (l.length - 1) 0).toNat) && decide ((l.getD (l.length - 1) 0).toNat ≤ 30)
theorem right_of {l : List UInt8} (h : rightF l = true) : ∃ m x, l = m ++ [x] ∧ 1 ≤ m.length ∧ 1 ≤ x.toNat ∧ x.toNat ≤ 30 := by
  simp only [rightF, Bool.and_eq_true, decide_eq_true_eq] at h
  obtain ⟨⟨h1, h2⟩, h3⟩ := h
  have hne : l ≠ [] := by rintro rfl; simp at h1
  have e : l.getD (l.length - 1) 0 = l.getLast hne := by
    rw [List.getD_eq_getElem?_getD, List.getElem?_eq_getElem (by omega), Option.getD_some, List.getLast_eq_getElem]
  rw [e] at h2 h3
  exact ⟨l.dropLast, l.getLast hne, (List.dropLast_concat_getLast hne).symm, by simp; omega, h2, h3⟩
theorem right_mk {m : List UInt8} {x : UInt8} (h1 : 1 ≤ m.length) (h2 : 1 ≤ x.toNat) (h3 : x.toNat ≤ 30) : rightF (m ++ [x]) = true := by
  simp [rightF]
  omega
theorem last_get (m : List UInt8) (x : UInt8) : (m ++ [x])[m.length]'(by simp) = x := by simp
set_option maxRecDepth 100000 in
set_option maxHeartbeats 1000000 in
theorem split_yes (m : List UInt8) (x : UInt8) (ad : Option Addr) (cap : Nat) (w : World) (hm : m.length + 1 ≤ cap) (hcm : cap ≤ maxLen) (h1 : 1 ≤ m.length) (h2 : 1 ≤ x.toNat) (h3 : x.toNat ≤ 30) (hb : Bytes w ad (m ++ [x])) :
    Calls Tryz.prog 155 #[.slice ad (m.length + 1) cap] w fun e w' => e = .returned (.tuple #[.slice ad m.length cap, .int .i64 (x.toNat : Int), .bool true]) ∧ Gr w w' := by
  unfold maxLen at hcm
  obtain ⟨b, off, rfl, hc⟩ := hb m.length (by simp)
  rw [last_get] at hc
  have hx2 : (1 : Int) ≤ (x.toNat : Int) := by omega
  have hx3 : (x.toNat : Int) ≤ 30 := by omega
  have hml : m.length < m.length + 1 := by omega
  go_enter Tryz.func155, Tryz.ntmps155
  go_wp2
  go_quiet (fail)
  go_wp2
  exact bodyPost_ret (v := .tuple #[.slice (some ⟨b, off, none⟩) m.length cap, .int .i64 (x.toNat : Int), .bool true]) (by simp [results, Tryz.results155, go_sem]) rfl ⟨rfl, Gr.drewN _ _⟩
set_option maxRecDepth 100000 in
set_option maxHeartbeats 1000000 in
theorem split_no (l : List UInt8) (ad : Option Addr) (cap : Nat) (w : World) (hm : l.length ≤ maxLen) (h : rightF l = false) (hb : Bytes w ad l) :
    Calls Tryz.prog 155 #[.slice ad l.length cap] w fun e w' => e = .returned (.tuple #[.slice none 0 0, .int .i64 0, .bool false]) ∧ Gr w w' := by
  unfold maxLen at hm
  by_cases h2 : 2 ≤ l.length
  · obtain ⟨k, hk⟩ : ∃ k, l.length = k + 1 := ⟨l.length - 1, by omega⟩
    have hkl : k < l.length := by omega
    obtain ⟨b, off, rfl, hc⟩ := hb k hkl
    have hd : l.getD (l.length - 1) 0 = l[k] := by
      rw [hk, List.getD_eq_getElem?_getD, Nat.add_sub_cancel, List.getElem?_eq_getElem hkl, Option.getD_some]
    have hbad : ¬ (1 ≤ l[k].toNat ∧ l[k].toNat ≤ 30) := by
      intro ⟨h3, h4⟩
      have : rightF l = true := by
        simp only [rightF, Bool.and_eq_true, decide_eq_true_eq]
        rw [hd]
        exact ⟨⟨h2, h3⟩, h4⟩
      rw [this] at h; cases h
    have HK := Lib.hid hk
    clear hd h
    generalize l[k] = x at *
    rw [hk]
    have hk1 : 1 ≤ k := by omega
    have hk2 : k + 1 ≤ 9223372036854775807 := by omega
    clear hk hkl hm h2
    have hx := byte_hi x
    by_cases hx1 : 1 ≤ x.toNat
    · have hx2 : (1 : Int) ≤ (x.toNat : Int) := by omega
      have hx3 : (30 : Int) < (x.toNat : Int) := by omega
      clear hbad
      go_enter Tryz.func155, Tryz.ntmps155
      go_wp2
      go_ret3
      exact ⟨rfl, Gr.refl _⟩
    · have hx2 : (x.toNat : Int) < 1 := by omega
      clear hbad
      go_enter Tryz.func155, Tryz.ntmps155
      go_wp2
      go_ret3
      exact ⟨rfl, Gr.refl _⟩
  · go_enter Tryz.func155, Tryz.ntmps155
    go_wp2
    go_ret3
    exact ⟨rfl, Gr.refl _⟩
/-- may it be there? -/
def mayF (l : List UInt8) (h : BitVec 32) : Bool := !rightF l || allF (l.take (l.length - 1)) h (8 * (l.length - 1)) (l.getD (l.length - 1) 0).toNat
theorem may_yes (m : List UInt8) (x : UInt8) (h : BitVec 32) (h1 : 1 ≤ m.length) (h2 : 1 ≤ x.toNat) (h3 : x.toNat ≤ 30) : mayF (m ++ [x]) h = allF m h (8 * m.length) x.toNat := by
  unfold mayF
  rw [right_mk h1 h2 h3]
  simp
theorem may_no {l : List UInt8} (h : BitVec 32) (hr : rightF l = false) : mayF l h = true := by unfold mayF; rw [hr]; rfl
set_option maxRecDepth 100000 in
set_option maxHeartbeats 1000000 in
theorem May_any (l key : List UInt8) (ad : Option Addr) (cap : Nat) (w : World) (hlc : l.length ≤ cap) (hcm : cap ≤ maxLen) (hl : l.length ≤ 500000000) (hb : Bytes w ad l) (hk : key.length ≤ 9223372036854775807) :
    Calls Tryz.prog 122 #[.slice ad l.length cap, .string (str key)] w fun e w' => e = .returned (.bool (mayF l (hashF key))) ∧ Gr w w' := by
  cases hr : rightF l with
  | true =>
    obtain ⟨m, x, rfl, h1, h2, h3⟩ := right_of hr
    rw [may_yes m x _ h1 h2 h3]
    simp only [List.length_append, List.length_cons, List.length_nil, Nat.zero_add] at hlc hl ⊢
    have HS := Lib.hid (split_yes m x ad cap w hlc hcm h1 h2 h3 hb)
    have hbm : Bytes w ad m := by have := hb.take m.length; simpa using this
    have hx : x.toNat ≤ 255 := by omega
    have hml : m.length ≤ 500000000 := by omega
    go_enter Tryz.func122, Tryz.ntmps122
    go_wp2_with (first
      | (go_at_call 155; refine HS.out.mono ?_; rintro e w1 ⟨rfl, g1⟩; have HE := Lib.hid (eachM_any key w1.heap.size cap x.toNat ad m (w1.alloc (.cells #[.slice ad m.length cap] 31)) hk ((Blk.new w1 31 #[.slice ad m.length cap]).cell rfl) ((hbm.gr g1).gr (Gr.alloc _ _)) h1 hml hx))
      | (go_at_call 90; refine HE.out.mono ?_; rintro e w2 ⟨rfl, g2⟩))
    go_ret
    exact ⟨rfl, (g1.trans (Gr.alloc _ _)).trans g2⟩
  | false =>
    rw [may_no _ hr]
    have HS := Lib.hid (split_no l ad cap w (Nat.le_trans hlc hcm) hr hb)
    go_enter Tryz.func122, Tryz.ntmps122
    go_wp2_with (go_at_call 155; refine HS.out.mono ?_; rintro e w1 ⟨rfl, g1⟩)
    go_ret
    exact ⟨rfl, g1.trans (Gr.alloc _ _)⟩
end Go.Proofs.YtpaogoehgkoaeaaGreatDoor
/- Layer 6 (bloom): filters are merged; does a filter do what it should? -/
namespace Go.Proofs.YtpaogoehgkoaeaaGreatDoor
set_option linter.unusedVariables false
set_option linter.unusedSimpArgs false
open Go.RowKit Bloom
end Go.Proofs.YtpaogoehgkoaeaaGreatDoor
/- Layer 6 (bloom): the reference's probes and questions. -/
namespace Go.Proofs.YtpaogoehgkoaeaaGreatDoor
set_option linter.unusedVariables false
set_option linter.unusedSimpArgs false
open Go.RowKit Bloom
theorem elemI : Elem Tryz.prog 23 3 (.int .i64 0) 1 8 := ⟨by kernel_rfl, by kernel_rfl, rfl, by decide⟩
theorem Owns.get {w : World} {base : Nat} {e : TypeId} {ad : Option Addr} {cap n : Nat} {xs : List Value} (h : Owns w base e 1 ad cap n xs) : xs.length = n := by
  have := h.1; omega
end Go.Proofs.YtpaogoehgkoaeaaGreatDoor
/- Layer 6 (bloom): blooms answers true; BloomHashes answers true. -/
namespace Go.Proofs.YtpaogoehgkoaeaaGreatDoor
set_option linter.unusedVariables false
set_option linter.unusedSimpArgs false
open Go.RowKit Bloom
end Go.Proofs.YtpaogoehgkoaeaaGreatDoor
/- Layer 6 (bloom): what filters do together; BloomMerges answers true. -/
namespace Go.Proofs.YtpaogoehgkoaeaaGreatDoor
set_option linter.unusedVariables false
set_option linter.unusedSimpArgs false
open Go.RowKit Bloom
theorem k_nat {k : Nat} (h : k ≤ 30) : (UInt8.ofNat k).toNat = k := by rw [UInt8.toNat_ofNat']; omega
theorem may_row (on : Nat → Bool) (n k : Nat) (h : BitVec 32) (hn : 1 ≤ n) (h1 : 1 ≤ k) (h2 : k ≤ 30) : mayF (rowF on n ++ [UInt8.ofNat k]) h = (List.range k).all fun j => on (bitAt h (8 * n) j) := by
  rw [may_yes _ _ _ (by rw [rowF_len]; exact hn) (by rw [k_nat h2]; exact h1) (by rw [k_nat h2]; exact h2), k_nat h2, rowF_len]
  unfold allF
  rw [Bool.eq_iff_iff, List.all_eq_true, List.all_eq_true]
  have e : ∀ j, bitOf (rowF on n) (bitAt h (8 * n) j) = on (bitAt h (8 * n) j) := fun j => bit_row on n _ (Nat.mod_lt _ (by omega))
  exact ⟨fun hj j hm => (e j) ▸ hj j hm, fun hj j hm => (e j).symm ▸ hj j hm⟩
theorem kF_le (b : Nat) : 1 ≤ kF b ∧ kF b ≤ 30 := by unfold kF; omega
theorem build_good {keys : List (List UInt8)} {b : Nat} (h1 : 1 ≤ b) (h2 : b ≤ 64) (hk : keys.length ≤ 100000) : buildF keys (b : Int) = (filterF keys b, 0) := by
  unfold buildF
  rw [if_neg (by omega), if_neg (by omega)]; rfl
theorem Row.take_ {w : World} {ad : Option Addr} {vs : List Value} (h : Row w ad vs) (n : Nat) : Row w ad (vs.take n) := fun i u hi => by
  rw [List.getElem?_take] at hi
  split at hi
  · exact h i u hi
  · cases hi
theorem Short.take_ {l : List (List UInt8)} (h : Short l) (n : Nat) : Short (l.take n) := fun s hs => h s (List.mem_of_mem_take hs)
end Go.Proofs.YtpaogoehgkoaeaaGreatDoor
/- Layer 6 (bloom): the reference's bits, as bytes. -/
namespace Go.Proofs.YtpaogoehgkoaeaaGreatDoor
set_option linter.unusedVariables false
set_option linter.unusedSimpArgs false
open Go.RowKit Bloom
theorem elemBool : Elem Tryz.prog 113 4 (.bool false) 1 1 := ⟨by kernel_rfl, by kernel_rfl, rfl, by decide⟩
end Go.Proofs.YtpaogoehgkoaeaaGreatDoor
/- The plain law of layer 4 (crc): the register's step as a linear map of 32 bits, what bytes do to it, what a join does. No program is in sight here. -/
namespace Go.Proofs.YtpaogoehgkoaeaaGreatDoor.Crc
set_option linter.unusedVariables false
set_option linter.unusedSimpArgs false

/-- one bit down -/
def stepF (r : BitVec 32) : BitVec 32 := (r >>> 1) ^^^ (-(r &&& 1#32) &&& 0x82F63B78#32)
def iterF : Nat → BitVec 32 → BitVec 32
  | 0, r => r
  | n + 1, r => iterF n (stepF r)
def byteF (r : BitVec 32) (x : UInt8) : BitVec 32 := iterF 8 (r ^^^ BitVec.ofNat 32 x.toNat)
def foldF (r : BitVec 32) (l : List UInt8) : BitVec 32 := l.foldl byteF r
def moreF (s : BitVec 32) (l : List UInt8) : BitVec 32 := ~~~ (foldF (~~~ s) l)
def sumF (l : List UInt8) : BitVec 32 := moreF 0#32 l
/-- the reference's bit -/
def bitF (r b : BitVec 32) : BitVec 32 := if (r ^^^ b).toNat % 2 = 1 then (r >>> 1) ^^^ 0x82F63B78#32 else r >>> 1
/-- bits of a word, the lowest first -/
def bitsF : Nat → BitVec 32 → BitVec 32 → BitVec 32
  | 0, r, _ => r
  | n + 1, r, x => bitsF n (bitF r (x &&& 1#32)) (x >>> 1)

theorem iterF_add (m n : Nat) : ∀ r, iterF (m + n) r = iterF n (iterF m r) := by
  induction m with
  | zero => intro r; simp [iterF]
  | succ m ih => intro r; rw [Nat.succ_add]; simp only [iterF, ih]
theorem iterF_succ' (n : Nat) (r : BitVec 32) : iterF (n + 1) r = stepF (iterF n r) := by
  rw [iterF_add n 1]; rfl

theorem foldF_append (r : BitVec 32) (l m : List UInt8) : foldF r (l ++ m) = foldF (foldF r l) m := List.foldl_append
theorem foldF_snoc (r : BitVec 32) (l : List UInt8) (x : UInt8) : foldF r (l ++ [x]) = byteF (foldF r l) x := by
  rw [foldF_append]; rfl
/-- a sum as it is written, and back -/
def maskF (x : BitVec 32) : BitVec 32 := (x <<< 17 ||| x >>> 15) + 2726488792#32
/- a change of some bits -/
end Go.Proofs.YtpaogoehgkoaeaaGreatDoor.Crc
/- Layer 4 (crc): what each function computes. -/
namespace Go.Proofs.YtpaogoehgkoaeaaGreatDoor
set_option linter.unusedVariables false
set_option linter.unusedSimpArgs false
open Go.RowKit Crc
theorem step_any (r : BitVec 32) (w : World) : Calls Tryz.prog 173 #[.int .u32 (U r)] w fun e w' => e = .returned (.int .u32 (U (stepF r))) ∧ w = w' := by
  have h0 := U_lo r
  have h1 := U_hi r
  go_enter Tryz.func173, Tryz.ntmps173
  go_wp2
  go_ret
  refine ⟨ret_int ?_, rfl⟩
  have e3 : U r / 2 = _ := U_shr r 2 1 rfl
  rw [U_andc r 1 1 rfl (by decide), U_neg, U_andc _ 2197175160 2197175160 rfl (by decide), e3, U_xor]
  rfl
set_option maxRecDepth 100000 in
set_option maxHeartbeats 400000 in
theorem more_any (s : BitVec 32) (ad : Option Addr) (len cap : Nat) (l : List UInt8) (w : World) (hlen : l.length = len) (hm : len ≤ maxLen)
   (hc : Bytes w ad l) : 
    Calls Tryz.prog 138 #[.int .u32 (U s), .slice ad len cap] w fun e w' => e = .returned (.int .u32 (U (moreF s l))) ∧ w = w' := by
  have h0 := U_lo s
  have h1 := U_hi s
  have h2 := U_not s
  unfold maxLen at hm
  subst hlen
  go_enter Tryz.func138, Tryz.ntmps138
  go_wp2
  go_loop [5, 7, 12] (fun r _ i => ∃ k : Nat, k ≤ l.length ∧ i = .int .i64 k ∧ r = .int .u32 (U (foldF (~~~ s) (l.take k)))) (fun _ _ i => l.length - (intOf i).toNat)
  case atStart => 
    exact ⟨0, Nat.zero_le _, rfl, by rw [List.take_zero]; rfl⟩
  case round =>
    obtain ⟨k, hk, rfl, rfl⟩ := hrel
    by_cases hlt : k < l.length
    · obtain ⟨b, off, rfl, hcell⟩ := hc k hlt
      have hB1 := byte_hi l[k]
      have hx := U_xorB (foldF (~~~ s) (l.take k)) l[k]
      generalize hR : foldF (~~~ s) (l.take k) = R at *
      have HR := Lib.hid hR; clear hR
      go_wp2
      go_loop [5, 20] (fun r i => ∃ j : Nat, j ≤ 8 ∧ i = .int .i64 j ∧ r = .int .u32 (U (iterF j (R ^^^ BitVec.ofNat 32 l[k].toNat)))) (fun _ i => 8 - (intOf i).toNat)
      case atStart => exact ⟨0, by omega, rfl, by first | rw [iterF] | rw [bitsF]⟩
      case round =>
        obtain ⟨j, hj, rfl, rfl⟩ := hrel
        by_cases hj8 : j < 8
        · go_wp2_with (go_at_call 173; refine (step_any _ _).mono ?_; rintro e w' ⟨rfl, rfl⟩)
          go_round
          case rel => exact ⟨j + 1, by omega, by go_num, by rw [iterF_succ']⟩
          case measure => simp [intOf]; omega
        · obtain rfl : j = 8 := by omega
          go_wp2
          go_round
          case rel => exact ⟨k + 1, by omega, by go_num, by rw [List.take_succ_eq_append_getElem hlt, foldF_snoc, HR.out]; rfl⟩
          case measure => simp [intOf]; omega
    · obtain rfl : k = l.length := by omega
      have h3 := U_not (foldF (~~~ s) l)
      go_wp2
      go_ret
      exact ⟨rfl, rfl⟩
theorem sum_any (ad : Option Addr) (len cap : Nat) (l : List UInt8) (w : World) (hlen : l.length = len) (hm : len ≤ maxLen)
   (hc : Bytes w ad l) : 
    Calls Tryz.prog 99 #[.slice ad len cap] w fun e w' => e = .returned (.int .u32 (U (sumF l))) ∧ w = w' := by
  have hz : (0 : Int) = U 0#32 := U_lit 0 rfl (by decide)
  have HZ := Lib.hid hz; clear hz
  go_enter Tryz.func99, Tryz.ntmps99
  go_wp2_with (go_at_call 138; rw [HZ.out]; refine (more_any _ _ _ _ l _ hlen hm hc).mono ?_; rintro e w' ⟨rfl, rfl⟩)
  go_ret
  exact ⟨rfl, rfl⟩
theorem mask_any (x : BitVec 32) (w : World) : Calls Tryz.prog 98 #[.int .u32 (U x)] w fun e w' => e = .returned (.int .u32 (U (maskF x))) ∧ w = w' := by
  have h0 := U_lo x
  have h1 := U_hi x
  have e1 : bits BinOp.and IntKind.u64 (IntKind.u64.wrap (-15)) 31 = 17 := by decide
  have e2 := U_shl x 131072 17 rfl
  have e3 := U_shr x 32768 15 rfl
  have e4 := U_or (x <<< 17) (x >>> 15)
  have e5 := U_addc (x <<< 17 ||| x >>> 15) 2726488792 2726488792 rfl (by decide)
  go_enter Tryz.func98, Tryz.ntmps98
  go_wp2
  go_ret
  exact ⟨ret_int e5, rfl⟩
end Go.Proofs.YtpaogoehgkoaeaaGreatDoor
/- Layer 3 (varint): what each function computes. -/
namespace Go.Proofs.YtpaogoehgkoaeaaGreatDoor
set_option linter.unusedVariables false
set_option linter.unusedSimpArgs false
open Go.RowKit Varint
end Go.Proofs.YtpaogoehgkoaeaaGreatDoor
/- Layer 3 (varint): what the reference's functions compute. -/
namespace Go.Proofs.YtpaogoehgkoaeaaGreatDoor
set_option linter.unusedVariables false
set_option linter.unusedSimpArgs false
open Go.RowKit Varint
end Go.Proofs.YtpaogoehgkoaeaaGreatDoor
/- Layer 3 (varint): the other functions of the program and of the reference. -/
namespace Go.Proofs.YtpaogoehgkoaeaaGreatDoor
set_option linter.unusedVariables false
set_option linter.unusedSimpArgs false
open Go.RowKit Varint
end Go.Proofs.YtpaogoehgkoaeaaGreatDoor
/- Layer 3 (varint): numbers of a fixed size. -/
namespace Go.Proofs.YtpaogoehgkoaeaaGreatDoor
set_option linter.unusedVariables false
set_option linter.unusedSimpArgs false
open Go.RowKit Varint
end Go.Proofs.YtpaogoehgkoaeaaGreatDoor
/- Layer 3 (varint): the reference's Get, and texts. -/
namespace Go.Proofs.YtpaogoehgkoaeaaGreatDoor
set_option linter.unusedVariables false
set_option linter.unusedSimpArgs false
open Go.RowKit Varint
end Go.Proofs.YtpaogoehgkoaeaaGreatDoor
/- Layer 1 (region): a pool in plain words. No program is in sight here. -/
namespace Go.Proofs.YtpaogoehgkoaeaaGreatDoor
set_option linter.unusedVariables false
set_option linter.unusedSimpArgs false
open Go.RowKit
/-- a region: is it there, its generation, its slabs, how far it is handed out -/
structure Land where
  there : Bool
  gen : Nat
  slabs : List Nat
  fill : Nat
def noLand : Land := ⟨false, 0, [], 0⟩
/-- a pool: how many bytes a slab has, the slabs' bytes, which are taken, the regions -/
structure PoolF where
  size : Nat
  bytes : List (List UInt8)
  taken : List Bool
  lands : List Land
def landAt (p : PoolF) (i : Nat) : Land := p.lands.getD i noLand
/-- a region that is in order -/
structure LandOk (p : PoolF) (l : Land) : Prop where
  nodup : l.slabs.Nodup
  lt : ∀ s ∈ l.slabs, s < p.bytes.length
  fill : (l.slabs = [] ∧ l.fill = 0) ∨ (l.slabs ≠ [] ∧ (l.slabs.length - 1) * p.size < l.fill ∧ l.fill ≤ l.slabs.length * p.size)
  away : l.there = false → l.slabs = []
/-- a pool that is in order -/
structure PoolOk (p : PoolF) : Prop where
  s1 : 64 ≤ p.size
  s2 : p.size ≤ 65536
  s3 : p.size % 8 = 0
  n1 : 1 ≤ p.bytes.length
  n2 : p.bytes.length ≤ 4096
  bl : ∀ b ∈ p.bytes, b.length = p.size
  tk : p.taken.length = p.bytes.length
  ln : p.lands.length = 256
  ld : ∀ i, i < 256 → LandOk p (landAt p i)
  has : ∀ s, s < p.bytes.length → (p.taken.getD s false = true ↔ ∃ i, i < 256 ∧ s ∈ (landAt p i).slabs)
  apart : ∀ i j s, i < 256 → j < 256 → s ∈ (landAt p i).slabs → s ∈ (landAt p j).slabs → i = j
theorem nodup_len : ∀ (n : Nat) (l : List Nat), l.Nodup → (∀ s ∈ l, s < n) → l.length ≤ n
  | 0, l, _, h => by
    cases l with
    | nil => simp
    | cons a t => have := h a (by simp); omega
  | n + 1, l, hd, h => by
    have h1 := nodup_len n (l.filter (· != n)) (hd.filter _) (fun s hs => by
      rw [List.mem_filter] at hs
      have := h s hs.1
      have h2 : s ≠ n := by simpa using hs.2
      omega)
    have h2 : l.length ≤ (l.filter (· != n)).length + 1 := by
      clear h1 h
      induction l with
      | nil => simp
      | cons a t ih =>
        rw [List.nodup_cons] at hd
        by_cases ha : a = n
        · subst ha
          have : t.filter (· != a) = t := List.filter_eq_self.2 (fun x hx => by
            have : x ≠ a := fun e => hd.1 (e ▸ hx)
            simpa using this)
          rw [List.filter_cons, if_neg (by simp), this]
          simp
        · rw [List.filter_cons, if_pos (by simpa using ha)]
          have := ih hd.2
          simp only [List.length_cons]
          omega
    omega
theorem LandOk.len {p : PoolF} {l : Land} (h : LandOk p l) : l.slabs.length ≤ p.bytes.length := nodup_len _ _ h.nodup h.lt
theorem LandOk.cap {p : PoolF} {l : Land} (h : LandOk p l) (hp : PoolOk p) : l.slabs.length * p.size ≤ 268435456 :=
  Nat.le_trans (Nat.mul_le_mul (Nat.le_trans h.len hp.n2) hp.s2) (by decide)
theorem LandOk.fill_le {p : PoolF} {l : Land} (h : LandOk p l) : l.fill ≤ l.slabs.length * p.size := by
  rcases h.fill with ⟨h1, h2⟩ | ⟨_, _, h3⟩
  · omega
  · exact h3
theorem landAt_set (p : PoolF) (i j : Nat) (l : Land) (hi : i < p.lands.length) : landAt { p with lands := p.lands.set i l } j = if i = j then l else landAt p j := by
  unfold landAt
  simp only [List.getD_eq_getElem?_getD, List.getElem?_set]
  by_cases h : i = j
  · subst h; simp [hi]
  · simp [h]
/-- the region of a number -/
def landF (p : PoolF) (r : Int) : Option Nat := if 0 ≤ r ∧ r < 256 ∧ (landAt p r.toNat).there = true then some r.toNat else none
theorem landF_some {p : PoolF} {r : Int} {i : Nat} (h : landF p r = some i) : r = (i : Int) ∧ i < 256 ∧ (landAt p i).there = true := by
  unfold landF at h
  split at h
  · rename_i hc
    cases h
    refine ⟨by omega, by omega, hc.2.2⟩
  · cases h
theorem landF_of {p : PoolF} {i : Nat} (hi : i < 256) (h : (landAt p i).there = true) : landF p (i : Int) = some i := by
  unfold landF
  rw [if_pos ⟨by omega, by omega, by simpa using h⟩]
  simp
/-- Make -/
def makeAt (p : PoolF) (i : Nat) : PoolF := { p with lands := p.lands.set i ⟨true, (landAt p i).gen + 1, [], 0⟩ }
def makeF (p : PoolF) : Option Nat := (List.range 256).find? fun i => !(landAt p i).there
theorem makeF_some {p : PoolF} {i : Nat} (h : makeF p = some i) : i < 256 ∧ (landAt p i).there = false ∧ ∀ j, j < i → (landAt p j).there = true := by
  unfold makeF at h
  rw [List.find?_range_eq_some] at h
  obtain ⟨h1, h2, h3⟩ := h
  refine ⟨by simpa using h2, by simpa using h1, fun j hj => ?_⟩
  have := h3 j hj
  simpa using this
theorem makeF_none {p : PoolF} (h : makeF p = none) : ∀ j, j < 256 → (landAt p j).there = true := by
  unfold makeF at h
  rw [List.find?_eq_none] at h
  intro j hj
  have := h j (by simpa using hj)
  simpa using this
theorem makeF_is {p : PoolF} {i : Nat} (hi : i < 256) (h0 : (landAt p i).there = false) (h1 : ∀ j, j < i → (landAt p j).there = true) : makeF p = some i := by
  unfold makeF
  rw [List.find?_range_eq_some]
  exact ⟨by simpa using h0, by simpa using hi, fun j hj => by simpa using h1 j hj⟩
theorem makeF_isnone {p : PoolF} (h1 : ∀ j, j < 256 → (landAt p j).there = true) : makeF p = none := by
  unfold makeF
  rw [List.find?_eq_none]
  intro j hj
  have := h1 j (by simpa using hj)
  simpa using this
/-- the least idle slab -/
def idleF (p : PoolF) : Option Nat := (List.range p.taken.length).find? fun s => !(p.taken.getD s false)
theorem idleF_some {p : PoolF} {s : Nat} (h : idleF p = some s) : s < p.taken.length ∧ p.taken.getD s false = false ∧ ∀ j, j < s → p.taken.getD j false = true := by
  unfold idleF at h
  rw [List.find?_range_eq_some] at h
  obtain ⟨h1, h2, h3⟩ := h
  refine ⟨by simpa using h2, by simpa using h1, fun j hj => ?_⟩
  have := h3 j hj
  simpa using this
theorem idleF_none {p : PoolF} (h : idleF p = none) : ∀ j, j < p.taken.length → p.taken.getD j false = true := by
  unfold idleF at h
  rw [List.find?_eq_none] at h
  intro j hj
  have := h j (by simpa using hj)
  simpa using this
/-- a region has one slab more -/
def growAt (p : PoolF) (i s : Nat) : PoolF :=
  { p with bytes := p.bytes.set s (List.replicate p.size 0), taken := p.taken.set s true, lands := p.lands.set i ⟨(landAt p i).there, (landAt p i).gen, (landAt p i).slabs ++ [s], (landAt p i).slabs.length * p.size⟩ }
def fillAt (p : PoolF) (i f : Nat) : PoolF := { p with lands := p.lands.set i ⟨(landAt p i).there, (landAt p i).gen, (landAt p i).slabs, f⟩ }
/-- a piece -/
structure Hd where
  region : Int
  gen : Int
  off : Int
  len : Int
def noHd : Hd := ⟨0, 0, 0, 0⟩
def alignOk (a : Int) : Bool := a == 1 || a == 2 || a == 4 || a == 8 || a == 16 || a == 32 || a == 64
def upTo (n a : Nat) : Nat := (n + a - 1) / a * a
/-- how much of the last slab is handed out -/
def inF (p : PoolF) (i : Nat) : Nat := p.size - ((landAt p i).slabs.length * p.size - (landAt p i).fill)
/-- Alloc: the piece, the error, the pool behind it -/
def allocF (p : PoolF) (r n a : Int) : Hd × Nat × PoolF :=
  match landF p r with
  | none => (noHd, 7, p)
  | some i =>
    if n < 1 ∨ n > (p.size : Int) ∨ alignOk a = false then (noHd, 1, p)
    else
      let at_ := upTo (inF p i) a.toNat
      if (landAt p i).slabs = [] ∨ p.size < at_ + n.toNat then
        match idleF p with
        | none => (noHd, 5, p)
        | some s => (⟨(i : Int), ((landAt p i).gen : Int), (((landAt p i).slabs.length * p.size : Nat) : Int), n⟩, 0, fillAt (growAt p i s) i ((landAt p i).slabs.length * p.size + n.toNat))
      else (⟨(i : Int), ((landAt p i).gen : Int), ((((landAt p i).slabs.length - 1) * p.size + at_ : Nat) : Int), n⟩, 0, fillAt p i (((landAt p i).slabs.length - 1) * p.size + at_ + n.toNat))
/-- a piece's slab and where it begins there; or the error -/
def pieceF (p : PoolF) (h : Hd) : (Nat × Nat) × Nat :=
  match landF p h.region with
  | none => ((0, 0), 3)
  | some i =>
    if ((landAt p i).gen : Int) ≠ h.gen then ((0, 0), 3)
    else if h.len < 1 ∨ h.off < 0 ∨ h.off > ((landAt p i).fill : Int) ∨ h.len > ((landAt p i).fill : Int) - h.off then ((0, 0), 1)
    else if h.off.toNat % p.size + h.len.toNat > p.size then ((0, 0), 1)
    else (((landAt p i).slabs.getD (h.off.toNat / p.size) 0, h.off.toNat % p.size), 0)
def bytesAt (p : PoolF) (s : Nat) : List UInt8 := p.bytes.getD s []
/-- Load -/
def loadF (p : PoolF) (h : Hd) : List UInt8 × Nat :=
  match pieceF p h with
  | ((s, k), 0) => (((bytesAt p s).drop k).take h.len.toNat, 0)
  | (_, e) => ([], e)
/-- Store -/
def storeF (p : PoolF) (h : Hd) (at_ : Int) (b : List UInt8) : Nat × PoolF :=
  match pieceF p h with
  | ((s, k), 0) =>
    if at_ < 0 ∨ at_ > h.len ∨ (b.length : Int) > h.len - at_ then (1, p)
    else (0, { p with bytes := p.bytes.set s (((bytesAt p s).take (k + at_.toNat)) ++ b ++ ((bytesAt p s).drop (k + at_.toNat + b.length))) })
  | (_, e) => (e, p)
/-- Free -/
def freeSlabs (p : PoolF) (l : List Nat) : PoolF := { p with bytes := l.foldl (fun bs s => bs.set s (List.replicate p.size 0xDD)) p.bytes, taken := l.foldl (fun t s => t.set s false) p.taken }
def freeF (p : PoolF) (r : Int) : Nat × PoolF :=
  match landF p r with
  | none => (7, p)
  | some i => (0, { freeSlabs p (landAt p i).slabs with lands := p.lands.set i ⟨false, (landAt p i).gen, [], 0⟩ })
def countF (p : PoolF) : Nat := (p.taken.filter (!·)).length
/-- New -/
def newF (size slabs : Nat) : PoolF := ⟨size, List.replicate slabs (List.replicate size 0), List.replicate slabs false, List.replicate 256 noLand⟩
theorem landAt_new (size slabs i : Nat) : landAt (newF size slabs) i = noLand := by
  unfold landAt newF
  simp only [List.getD_eq_getElem?_getD, List.getElem?_replicate]
  split <;> rfl
theorem new_ok {size slabs : Nat} (h1 : 64 ≤ size) (h2 : size ≤ 65536) (h3 : size % 8 = 0) (h4 : 1 ≤ slabs) (h5 : slabs ≤ 4096) : PoolOk (newF size slabs) := by
  have hb : (newF size slabs).bytes.length = slabs := List.length_replicate
  have ht : (newF size slabs).taken.length = slabs := List.length_replicate
  refine ⟨h1, h2, h3, by rw [hb]; exact h4, by rw [hb]; exact h5, fun b hb => ?_, by rw [hb, ht], List.length_replicate, fun i _ => ?_, fun s hs => ?_, fun i j s _ _ hs => ?_⟩
  · rw [List.eq_of_mem_replicate hb]; exact List.length_replicate
  · rw [landAt_new]; exact ⟨by simp [noLand], by simp [noLand], .inl ⟨rfl, rfl⟩, fun _ => rfl⟩
  · simp only [landAt_new, noLand, List.not_mem_nil, and_false, exists_false, iff_false]
    show ¬ (List.replicate slabs false).getD s false = true
    rw [List.getD_eq_getElem?_getD, List.getElem?_replicate]
    split <;> simp
  · rw [landAt_new] at hs; simp [noLand] at hs
/-- a region turned: what stays -/
theorem make_ok {p : PoolF} (h : PoolOk p) {i : Nat} (hi : i < 256) (h0 : (landAt p i).there = false) : PoolOk (makeAt p i) := by
  have hs : (landAt p i).slabs = [] := (h.ld i hi).away h0
  have hl : i < p.lands.length := by rw [h.ln]; exact hi
  have ha : ∀ j, landAt (makeAt p i) j = if i = j then ⟨true, (landAt p i).gen + 1, [], 0⟩ else landAt p j := fun j => landAt_set p i j _ hl
  have hsl : ∀ j, (landAt (makeAt p i) j).slabs = (landAt p j).slabs := fun j => by
    rw [ha]; split
    · rename_i e; subst e; exact hs.symm
    · rfl
  refine ⟨h.s1, h.s2, h.s3, h.n1, h.n2, h.bl, h.tk, by simpa [makeAt] using h.ln, fun j hj => ?_, fun s hs => ?_, fun j k s hj hk h1 h2 => ?_⟩
  · rw [ha]; split
    · exact ⟨by simp, by simp, .inl ⟨rfl, rfl⟩, fun _ => rfl⟩
    · have := h.ld j hj
      exact ⟨this.nodup, this.lt, this.fill, this.away⟩
  · simp only [hsl]; exact h.has s hs
  · rw [hsl] at h1 h2; exact h.apart j k s hj hk h1 h2
end Go.Proofs.YtpaogoehgkoaeaaGreatDoor
/- Layer 1 (region): how a piece is aligned, in bits. No program is in sight here. -/
namespace Go.Proofs.YtpaogoehgkoaeaaGreatDoor
set_option linter.unusedVariables false
set_option linter.unusedSimpArgs false
open Go.RowKit
theorem i64_align (x k : Nat) (hk : k ≤ 6) (hx : x < 9223372036854775808) : bits .andNot .i64 (x : Int) ((2 ^ k - 1 : Nat) : Int) = ((x / 2 ^ k * 2 ^ k : Nat) : Int) := by
  show IntKind.i64.wrap ((BitVec.ofInt 64 (x : Int) &&& ~~~BitVec.ofInt 64 ((2 ^ k - 1 : Nat) : Int)).toNat : Int) = _
  rw [BitVec.ofInt_natCast, BitVec.ofInt_natCast]
  have e : (BitVec.ofNat 64 x &&& ~~~BitVec.ofNat 64 (2 ^ k - 1)) = BitVec.ofNat 64 (x / 2 ^ k * 2 ^ k) := by
    apply BitVec.eq_of_getLsbD_eq
    intro i hi
    simp only [BitVec.getLsbD_and, BitVec.getLsbD_not, BitVec.getLsbD_ofNat, hi, decide_true, Bool.true_and, Nat.testBit_two_pow_sub_one, Nat.testBit_mul_two_pow, Nat.testBit_div_two_pow]
    by_cases h : i < k
    · have : ¬ k ≤ i := by omega
      simp [h, this]
    · have h2 : k ≤ i := by omega
      simp [h, h2]
  rw [e, BitVec.toNat_ofNat]
  have hle : x / 2 ^ k * 2 ^ k ≤ x := Nat.div_mul_le_self _ _
  rw [Nat.mod_eq_of_lt (by omega), IntKind.wrap_i64]
  omega
theorem pow_check : ∀ a : Fin 65, 1 ≤ a.val → (decide (bits .and .i64 (a.val : Int) ((a.val : Int) - 1) = 0) = alignOk (a.val : Int)) := by decide +kernel
theorem align_check {a : Int} (h1 : 1 ≤ a) (h2 : a ≤ 64) : (bits .and .i64 a (a - 1) = 0 ∧ alignOk a = true) ∨ (bits .and .i64 a (a - 1) ≠ 0 ∧ alignOk a = false) := by
  have := pow_check ⟨a.toNat, by omega⟩ (by simp only; omega)
  simp only [show (a.toNat : Int) = a by omega] at this
  cases hk : alignOk a with
  | true => rw [hk] at this; exact .inl ⟨by simpa using this, rfl⟩
  | false => rw [hk] at this; exact .inr ⟨by simpa using this, rfl⟩
theorem alignOk_pow {a : Int} (h : alignOk a = true) : ∃ k : Nat, k ≤ 6 ∧ a = ((2 ^ k : Nat) : Int) := by
  unfold alignOk at h
  simp only [Bool.or_eq_true, beq_iff_eq] at h
  rcases h with (((((h | h) | h) | h) | h) | h) | h
  · exact ⟨0, by decide, h⟩
  · exact ⟨1, by decide, h⟩
  · exact ⟨2, by decide, h⟩
  · exact ⟨3, by decide, h⟩
  · exact ⟨4, by decide, h⟩
  · exact ⟨5, by decide, h⟩
  · exact ⟨6, by decide, h⟩
theorem alignOk_range {a : Int} (h : alignOk a = true) : 1 ≤ a ∧ a ≤ 64 := by
  unfold alignOk at h
  simp only [Bool.or_eq_true, beq_iff_eq] at h
  omega
/-- 'in' aligned -/
theorem align_up {x : Nat} {a : Int} (h : alignOk a = true) (hx : x ≤ 1000000000) : bits .andNot .i64 ((x : Int) + a - 1) (a - 1) = ((upTo x a.toNat : Nat) : Int) := by
  obtain ⟨k, hk, rfl⟩ := alignOk_pow h
  have hp : 0 < 2 ^ k := Nat.two_pow_pos k
  have hr := alignOk_range h
  have e1 : (x : Int) + ((2 ^ k : Nat) : Int) - 1 = ((x + 2 ^ k - 1 : Nat) : Int) := by omega
  have e2 : ((2 ^ k : Nat) : Int) - 1 = ((2 ^ k - 1 : Nat) : Int) := by omega
  rw [e1, e2, i64_align _ k hk (by omega)]
  unfold upTo
  rw [Int.toNat_natCast]
theorem upTo_bounds {x a : Nat} (h : 1 ≤ a) : x ≤ upTo x a ∧ upTo x a < x + a := by
  unfold upTo
  have h1 := Nat.div_add_mod (x + a - 1) a
  have h2 := Nat.mod_lt (x + a - 1) (show 0 < a by omega)
  have h3 : (x + a - 1) / a * a = a * ((x + a - 1) / a) := Nat.mul_comm _ _
  omega
end Go.Proofs.YtpaogoehgkoaeaaGreatDoor
/- Layer 1 (region): every call leaves the pool in order. No program is in sight here. -/
namespace Go.Proofs.YtpaogoehgkoaeaaGreatDoor
set_option linter.unusedVariables false
set_option linter.unusedSimpArgs false
open Go.RowKit
theorem getD_set_bool (l : List Bool) (s j : Nat) (b : Bool) (hs : s < l.length) : (l.set s b).getD j false = if s = j then b else l.getD j false := by
  simp only [List.getD_eq_getElem?_getD, List.getElem?_set]
  by_cases h : s = j
  · subst h; simp [hs]
  · simp [h]
theorem landAt_grow {p : PoolF} (h : PoolOk p) {i : Nat} (hi : i < 256) (s j : Nat) : landAt (growAt p i s) j = if i = j then ⟨(landAt p i).there, (landAt p i).gen, (landAt p i).slabs ++ [s], (landAt p i).slabs.length * p.size⟩ else landAt p j :=
  landAt_set { p with bytes := p.bytes.set s (List.replicate p.size 0), taken := p.taken.set s true } i j _ (by show i < p.lands.length; rw [h.ln]; exact hi)
theorem landAt_fill {p : PoolF} (h : p.lands.length = 256) {i : Nat} (hi : i < 256) (f j : Nat) : landAt (fillAt p i f) j = if i = j then ⟨(landAt p i).there, (landAt p i).gen, (landAt p i).slabs, f⟩ else landAt p j :=
  landAt_set p i j _ (by rw [h]; exact hi)
theorem grow_lands {p : PoolF} (h : PoolOk p) (i s : Nat) : (growAt p i s).lands.length = 256 := by show (p.lands.set i _).length = 256; rw [List.length_set]; exact h.ln
theorem mem_bytes_set {α : Type} {l : List α} {s : Nat} {x y : α} (h : y ∈ l.set s x) : y ∈ l ∨ y = x := List.mem_or_eq_of_mem_set h
/-- a region has a slab more, and is handed out so far -/
theorem growfill_ok {p : PoolF} (h : PoolOk p) {i s f : Nat} (hi : i < 256) (hth : (landAt p i).there = true) (hs : s < p.taken.length) (h0 : p.taken.getD s false = false) (f1 : (landAt p i).slabs.length * p.size < f) (f2 : f ≤ ((landAt p i).slabs.length + 1) * p.size) :
    PoolOk (fillAt (growAt p i s) i f) := by
  have hA : ∀ j, landAt (fillAt (growAt p i s) i f) j = if i = j then ⟨(landAt p i).there, (landAt p i).gen, (landAt p i).slabs ++ [s], f⟩ else landAt p j := fun j => by
    rw [landAt_fill (grow_lands h i s) hi, landAt_grow h hi, landAt_grow h hi, if_pos rfl]
    split <;> rfl
  have hsb : s < p.bytes.length := by rw [← h.tk]; exact hs
  have hbl : (fillAt (growAt p i s) i f).bytes.length = p.bytes.length := List.length_set
  have hnot : ∀ j, j < 256 → s ∉ (landAt p j).slabs := fun j hj hm => by
    have := (h.has s hsb).2 ⟨j, hj, hm⟩
    rw [h0] at this; cases this
  have hsl : ∀ j, (landAt (fillAt (growAt p i s) i f) j).slabs = if i = j then (landAt p i).slabs ++ [s] else (landAt p j).slabs := fun j => by rw [hA]; split <;> rfl
  refine ⟨h.s1, h.s2, h.s3, by rw [hbl]; exact h.n1, by rw [hbl]; exact h.n2, fun b hb => ?_, ?_, ?_, fun j hj => ?_, fun t ht => ?_, fun j k t hj hk m1 m2 => ?_⟩
  · rcases mem_bytes_set hb with h1 | h1
    · exact h.bl b h1
    · rw [h1]; exact List.length_replicate
  · rw [hbl]; show (p.taken.set s true).length = _; rw [List.length_set]; exact h.tk
  · show ((growAt p i s).lands.set i _).length = 256; rw [List.length_set]; exact grow_lands h i s
  · rw [hA]
    by_cases e : i = j
    · subst e
      rw [if_pos rfl]
      have hl := h.ld i hi
      refine ⟨?_, fun t ht => ?_, .inr ⟨by simp, ?_, ?_⟩, fun hf => ?_⟩
      · refine List.nodup_append.2 ⟨hl.nodup, by simp, fun a ha b hb e => ?_⟩
        rw [List.mem_singleton] at hb
        exact hnot i hi (by rw [← hb, ← e]; exact ha)
      · rw [hbl]
        rcases List.mem_append.1 ht with h1 | h1
        · exact hl.lt t h1
        · rw [List.mem_singleton] at h1; rw [h1]; exact hsb
      · show (((landAt p i).slabs ++ [s]).length - 1) * p.size < f
        simpa using f1
      · show f ≤ ((landAt p i).slabs ++ [s]).length * p.size
        simpa using f2
      · exact absurd (hth.symm.trans hf) (by simp)
    · rw [if_neg e]
      have hl := h.ld j hj
      exact ⟨hl.nodup, fun t ht => by rw [hbl]; exact hl.lt t ht, hl.fill, hl.away⟩
  · rw [hbl] at ht
    have hg : (fillAt (growAt p i s) i f).taken.getD t false = if s = t then true else p.taken.getD t false := getD_set_bool p.taken s t true hs
    rw [hg]
    by_cases e : s = t
    · subst e
      rw [if_pos rfl]
      exact ⟨fun _ => ⟨i, hi, by rw [hsl, if_pos rfl]; simp⟩, fun _ => rfl⟩
    · rw [if_neg e, h.has t ht]
      constructor
      · rintro ⟨j, hj, hm⟩
        refine ⟨j, hj, ?_⟩
        rw [hsl]
        split
        · rename_i e2; subst e2; exact List.mem_append_left _ hm
        · exact hm
      · rintro ⟨j, hj, hm⟩
        refine ⟨j, hj, ?_⟩
        rw [hsl] at hm
        split at hm
        · rename_i e2; subst e2
          rcases List.mem_append.1 hm with h1 | h1
          · exact h1
          · rw [List.mem_singleton] at h1; exact absurd h1.symm e
        · exact hm
  · rw [hsl] at m1 m2
    by_cases ej : i = j
    · subst ej
      by_cases ek : i = k
      · exact ek
      · rw [if_pos rfl] at m1
        rw [if_neg ek] at m2
        rcases List.mem_append.1 m1 with h1 | h1
        · exact h.apart i k t hi hk h1 m2
        · rw [List.mem_singleton] at h1; rw [h1] at m2; exact absurd m2 (hnot k hk)
    · rw [if_neg ej] at m1
      by_cases ek : i = k
      · subst ek
        rw [if_pos rfl] at m2
        rcases List.mem_append.1 m2 with h1 | h1
        · exact h.apart j i t hj hi m1 h1
        · rw [List.mem_singleton] at h1; rw [h1] at m1; exact absurd m1 (hnot j hj)
      · rw [if_neg ek] at m2
        exact h.apart j k t hj hk m1 m2
/-- a region is handed out further within its last slab -/
theorem fill_ok {p : PoolF} (h : PoolOk p) {i f : Nat} (hi : i < 256) (hne : (landAt p i).slabs ≠ []) (f1 : ((landAt p i).slabs.length - 1) * p.size < f) (f2 : f ≤ (landAt p i).slabs.length * p.size) : PoolOk (fillAt p i f) := by
  have hA := fun j => landAt_fill (p := p) h.ln hi f j
  have hsl : ∀ j, (landAt (fillAt p i f) j).slabs = (landAt p j).slabs := fun j => by
    rw [hA]; split
    · rename_i e; subst e; rfl
    · rfl
  refine ⟨h.s1, h.s2, h.s3, h.n1, h.n2, h.bl, h.tk, ?_, fun j hj => ?_, fun t ht => ?_, fun j k t hj hk m1 m2 => ?_⟩
  · show (p.lands.set i _).length = 256; rw [List.length_set]; exact h.ln
  · have hl := h.ld j hj
    rw [hA]
    by_cases e : i = j
    · subst e; rw [if_pos rfl]
      exact ⟨hl.nodup, hl.lt, .inr ⟨hne, f1, f2⟩, hl.away⟩
    · rw [if_neg e]; exact ⟨hl.nodup, hl.lt, hl.fill, hl.away⟩
  · simp only [hsl]; exact h.has t ht
  · rw [hsl] at m1 m2; exact h.apart j k t hj hk m1 m2
theorem inF_bounds {p : PoolF} (h : PoolOk p) {i : Nat} (hi : i < 256) : inF p i ≤ p.size ∧ ((landAt p i).slabs ≠ [] → (landAt p i).fill = ((landAt p i).slabs.length - 1) * p.size + inF p i ∧ 1 ≤ inF p i) := by
  have hl := h.ld i hi
  unfold inF
  refine ⟨Nat.sub_le _ _, fun hne => ?_⟩
  rcases hl.fill with ⟨h1, _⟩ | ⟨_, h2, h3⟩
  · exact absurd h1 hne
  · obtain ⟨k, hk⟩ : ∃ k, (landAt p i).slabs.length = k + 1 := ⟨(landAt p i).slabs.length - 1, by
      cases hsl : (landAt p i).slabs with
      | nil => exact absurd hsl hne
      | cons _ _ => simp⟩
    rw [hk] at h2 h3 ⊢
    simp only [Nat.add_sub_cancel] at h2 ⊢
    rw [Nat.add_mul] at h3 ⊢
    omega
theorem alloc_ok {p : PoolF} (h : PoolOk p) (r n a : Int) : PoolOk (allocF p r n a).2.2 := by
  unfold allocF
  cases hl : landF p r with
  | none => exact h
  | some i =>
    obtain ⟨_, hi, hth⟩ := landF_some hl
    simp only
    split
    · exact h
    · rename_i hb
      have hn1 : 1 ≤ n.toNat := by omega
      have hn2 : n.toNat ≤ p.size := by omega
      split
      · cases hid : idleF p with
        | none => exact h
        | some s =>
          obtain ⟨h1, h2, _⟩ := idleF_some hid
          simp only
          exact growfill_ok h hi hth h1 h2 (by omega) (by rw [Nat.add_mul]; omega)
      · rename_i hg
        have hne : (landAt p i).slabs ≠ [] := fun e => hg (.inl e)
        have hfit : ¬ p.size < upTo (inF p i) a.toNat + n.toNat := fun e => hg (.inr e)
        simp only
        refine fill_ok h hi hne (by omega) ?_
        obtain ⟨k, hk⟩ : ∃ k, (landAt p i).slabs.length = k + 1 := ⟨(landAt p i).slabs.length - 1, by
          cases hsl : (landAt p i).slabs with
          | nil => exact absurd hsl hne
          | cons _ _ => simp⟩
        rw [hk, Nat.add_sub_cancel, Nat.add_mul]
        omega
theorem setB_ok {p : PoolF} (h : PoolOk p) (s : Nat) (b : List UInt8) (hb : s < p.bytes.length → b.length = p.size) : PoolOk { p with bytes := p.bytes.set s b } := by
  have hl : ∀ j, landAt { p with bytes := p.bytes.set s b } j = landAt p j := fun _ => rfl
  have hbl : ({ p with bytes := p.bytes.set s b } : PoolF).bytes.length = p.bytes.length := List.length_set
  refine ⟨h.s1, h.s2, h.s3, by rw [hbl]; exact h.n1, by rw [hbl]; exact h.n2, fun y hy => ?_, by rw [hbl]; exact h.tk, h.ln, fun j hj => ?_, fun t ht => h.has t (by rw [hbl] at ht; exact ht), h.apart⟩
  · by_cases hs : s < p.bytes.length
    · rcases mem_bytes_set hy with h1 | h1
      · exact h.bl y h1
      · rw [h1]; exact hb hs
    · rw [List.set_eq_of_length_le (by omega)] at hy
      exact h.bl y hy
  · have := h.ld j hj
    exact ⟨this.nodup, fun t ht => by rw [hbl]; exact this.lt t ht, this.fill, this.away⟩
end Go.Proofs.YtpaogoehgkoaeaaGreatDoor
/- Layer 1 (region): a pool in memory. -/
namespace Go.Proofs.YtpaogoehgkoaeaaGreatDoor
set_option linter.unusedVariables false
set_option linter.unusedSimpArgs false
open Go.RowKit
/-- only blocks of S have changed -/
structure Chg (S : Nat → Prop) (w w' : World) : Prop where
  os : w'.os = w.os
  tape : w'.tape = w.tape
  output : w'.output = w.output
  size : w.heap.size ≤ w'.heap.size
  block : ∀ j, j < w.heap.size → ¬ S j → w'.heap[j]? = w.heap[j]?
section
variable {S S' : Nat → Prop} {a w w' w2 : World}
theorem Chg.refl (w : World) : Chg S w w := ⟨rfl, rfl, rfl, Nat.le_refl _, fun _ _ _ => rfl⟩
theorem Chg.trans (h : Chg S w w') (k : Chg S' w' w2) (hs : ∀ j, S' j → S j ∨ w.heap.size ≤ j) : Chg S w w2 :=
  ⟨k.os.trans h.os, k.tape.trans h.tape, k.output.trans h.output, Nat.le_trans h.size k.size, fun j hj hn => (k.block j (Nat.lt_of_lt_of_le hj h.size) (fun hs' => by
    rcases hs j hs' with h1 | h1
    · exact hn h1
    · omega)).trans (h.block j hj hn)⟩
theorem Gr.chg (h : Gr w w') : Chg S w w' := ⟨h.os, h.tape, h.output, h.size, fun j hj _ => h.block j hj⟩
theorem Chg.grown {b : Nat} (h : w.grownBy w' (some b)) (hb : S b) : Chg S w w' := ⟨h.os, h.tape, h.output, h.size, fun j hj hn => h.block j hj (fun e => hn ((Option.some.inj e) ▸ hb))⟩
theorem Chg.gr (h : Chg S w w') (k : Gr a w) (hs : ∀ j, S j → a.heap.size ≤ j) : Gr a w' :=
  ⟨h.os.trans k.os, h.tape.trans k.tape, h.output.trans k.output, Nat.le_trans k.size h.size, fun j hj => (h.block j (Nat.lt_of_lt_of_le hj k.size) (fun e => by have := hs j e; omega)).trans (k.block j hj)⟩
theorem Chg.heap (h : Chg S w w') {j : Nat} {o : Obj} (hj : w.heap[j]? = some o) (hn : ¬ S j) : w'.heap[j]? = some o := (h.block j (Array.getElem?_eq_some_iff.1 hj).1 hn).trans hj
theorem Chg.blk (h : Chg S w w') {g : Nat} {t : TypeId} {cs : List Value} (hb : Blk w g t cs) (hn : ¬ S g) : Blk w' g t cs := h.heap hb hn
theorem Chg.owns (h : Chg S w w') {base : Nat} {e : TypeId} {size : Nat} {ad : Option Addr} {cap n : Nat} {xs : List Value} (ho : Owns w base e size ad cap n xs) (hn : ∀ x, ad = some x → ¬ S x.block) : Owns w' base e size ad cap n xs :=
  ho.kept fun k hk => h.block k (ho.lt _ hk).2 (hn _ hk)
theorem Chg.row (h : Chg S w w') {ad : Option Addr} {vs : List Value} (hr : Row w ad vs) (hn : ∀ x, ad = some x → ¬ S x.block) : Row w' ad vs := fun i u hi => by
  obtain ⟨b, off, e, hc⟩ := hr i u hi
  refine ⟨b, off, e, ?_⟩
  have := h.block b (World.block_lt_of_cell? w _ hc) (hn _ e)
  unfold World.cell? at hc ⊢
  simp only at hc ⊢
  rw [this]; exact hc
end
theorem Blk.ne {w : World} {g g' : Nat} {t t' : TypeId} {cs cs' : List Value} (h : Blk w g t cs) (h' : Blk w g' t' cs') (ht : t ≠ t') : g ≠ g' := fun e => by
  subst e
  unfold Blk at h h'
  rw [h] at h'
  cases h'
  exact ht rfl
theorem Blk.owns_ne {w : World} {g : Nat} {t e : TypeId} {cs : List Value} (h : Blk w g t cs) {base size cap n : Nat} {ad : Option Addr} {xs : List Value} (ho : Owns w base e size ad cap n xs) (ht : t ≠ e) : ∀ x, ad = some x → x.block ≠ g := fun x hx ex => by
  obtain ⟨_, _, _, ⟨e1, _⟩ | ⟨g', cur, fr, e1, e2, hg, _⟩⟩ := ho
  · rw [e1] at hx; cases hx
  · rw [e1] at hx; cases hx
    simp only at ex
    subst ex
    unfold Blk at h
    rw [h] at hg
    cases hg
    exact ht rfl
theorem Owns.ne {w : World} {e e' : TypeId} {base base' size size' cap cap' n n' : Nat} {ad ad' : Option Addr} {xs xs' : List Value} (h : Owns w base e size ad cap n xs) (h' : Owns w base' e' size' ad' cap' n' xs') (ht : e ≠ e') : ∀ x y, ad = some x → ad' = some y → x.block ≠ y.block := fun x y hx hy ex => by
  obtain ⟨_, _, _, ⟨e1, _⟩ | ⟨g, cur, fr, e1, _, hg, _⟩⟩ := h
  · rw [e1] at hx; cases hx
  · obtain ⟨_, _, _, ⟨e2, _⟩ | ⟨g', cur', fr', e2, _, hg', _⟩⟩ := h'
    · rw [e2] at hy; cases hy
    · rw [e1] at hx; rw [e2] at hy; cases hx; cases hy
      simp only at ex
      subst ex
      rw [hg] at hg'
      cases hg'
      exact ht rfl
/-- rows of four cells each -/
def flat (F : Nat → List Value) (n : Nat) : List Value := (List.range n).flatMap F
theorem flat_succ (F : Nat → List Value) (n : Nat) : flat F (n + 1) = flat F n ++ F n := by simp [flat, List.range_succ]
theorem flat_congr {F G : Nat → List Value} : ∀ n, (∀ i, i < n → F i = G i) → flat F n = flat G n
  | 0, _ => rfl
  | n + 1, h => by rw [flat_succ, flat_succ, flat_congr n (fun i hi => h i (by omega)), h n (by omega)]
theorem flat_len {F : Nat → List Value} (hF : ∀ i, (F i).length = 4) : ∀ n, (flat F n).length = 4 * n
  | 0 => rfl
  | n + 1 => by rw [flat_succ, List.length_append, flat_len hF n, hF]; omega
theorem flat_get {F : Nat → List Value} (hF : ∀ i, (F i).length = 4) : ∀ n i k, i < n → k < 4 → (flat F n)[i * 4 + k]? = (F i)[k]?
  | 0, _, _, h, _ => by omega
  | n + 1, i, k, h, hk => by
    rw [flat_succ]
    have hl := flat_len hF n
    by_cases hi : i < n
    · rw [List.getElem?_append_left (by omega)]
      exact flat_get hF n i k hi hk
    · obtain rfl : i = n := by omega
      rw [List.getElem?_append_right (by omega), hl]
      congr 1; omega
theorem flat_set {F : Nat → List Value} (hF : ∀ i, (F i).length = 4) : ∀ n i k v, i < n → k < 4 → (flat F n).set (i * 4 + k) v = flat (fun j => if j = i then (F j).set k v else F j) n
  | 0, _, _, _, h, _ => by omega
  | n + 1, i, k, v, h, hk => by
    rw [flat_succ, flat_succ]
    have hl := flat_len hF n
    by_cases hi : i < n
    · rw [List.set_append_left _ _ (by omega), flat_set hF n i k v hi hk, if_neg (by omega)]
    · obtain rfl : i = n := by omega
      rw [List.set_append_right _ _ (by omega), hl, if_pos rfl, show i * 4 + k - 4 * i = k by omega]
      congr 1
      exact flat_congr _ (fun j hj => by rw [if_neg (by omega)])
/-- a region's cells -/
def landV (l : Land) (ad : Option Addr) (cap : Nat) : List Value := [.bool l.there, .int .i64 (l.gen : Int), .slice ad l.slabs.length cap, .int .i64 (l.fill : Int)]
def poolV (p : PoolF) (ads : Option Addr) (cs : Nat) (adt : Option Addr) (ct : Nat) (A : Nat → Option Addr) (C : Nat → Nat) : List Value :=
  [.int .i64 (p.size : Int), .slice ads p.bytes.length cs, .slice adt p.taken.length ct] ++ flat (fun i => landV (landAt p i) (A i) (C i)) 256
def iv (l : List Nat) : List Value := l.map fun (n : Nat) => .int .i64 (n : Int)
def slabV (bd : Nat → Nat) (size n : Nat) : List Value := (List.range n).map fun i => .slice (some ⟨bd i, 0, none⟩) size size
/-- a pool in block g; all that it has lies in S -/
structure PX (w : World) (S : Nat → Prop) (g : Nat) (p : PoolF) (ads : Option Addr) (cs : Nat) (adt : Option Addr) (ct : Nat) (A : Nat → Option Addr) (C : Nat → Nat) (bd : Nat → Nat) : Prop where
  blk : Blk w g 119 (poolV p ads cs adt ct A C)
  row : Owns w 0 31 1 ads cs p.bytes.length (slabV bd p.size p.bytes.length)
  tak : Owns w 0 4 1 adt ct p.taken.length (p.taken.map .bool)
  slab : ∀ i, i < p.bytes.length → Blk w (bd i) 5 (bv (bytesAt p i))
  land : ∀ i, i < 256 → Owns w 0 3 1 (A i) (C i) (landAt p i).slabs.length (iv (landAt p i).slabs)
  inj : ∀ i j, i < p.bytes.length → j < p.bytes.length → bd i = bd j → i = j
  sep : ∀ i j x y, i < 256 → j < 256 → A i = some x → A j = some y → x.block = y.block → i = j
  sg : S g
  srow : ∀ x, ads = some x → S x.block
  stak : ∀ x, adt = some x → S x.block
  sslab : ∀ i, i < p.bytes.length → S (bd i)
  sland : ∀ i x, i < 256 → A i = some x → S x.block
  lt : ∀ j, S j → j < w.heap.size
def PoolAt (w : World) (S : Nat → Prop) (g : Nat) (p : PoolF) : Prop := ∃ ads cs adt ct A C bd, PX w S g p ads cs adt ct A C bd
section
variable {w w' : World} {S S' : Nat → Prop} {g : Nat} {p : PoolF} {ads adt : Option Addr} {cs ct : Nat} {A : Nat → Option Addr} {C bd : Nat → Nat}
theorem landV_len (l : Land) (ad : Option Addr) (cap : Nat) : (landV l ad cap).length = 4 := rfl
theorem poolV_land {i k : Nat} (hi : i < 256) (hk : k < 4) : (poolV p ads cs adt ct A C)[3 + i * 4 + k]? = (landV (landAt p i) (A i) (C i))[k]? := by
  unfold poolV
  rw [List.getElem?_append_right (by simp; omega), show 3 + i * 4 + k - [Value.int .i64 (p.size : Int), .slice ads p.bytes.length cs, .slice adt p.taken.length ct].length = i * 4 + k by simp; omega]
  exact flat_get (fun i => landV_len _ _ _) 256 i k hi hk
theorem PX.head (h : PX w S g p ads cs adt ct A C bd) : w.cell? ⟨g, 0, none⟩ = some (.int .i64 (p.size : Int)) ∧ w.cell? ⟨g, 1, none⟩ = some (.slice ads p.bytes.length cs) ∧ w.cell? ⟨g, 2, none⟩ = some (.slice adt p.taken.length ct) :=
  ⟨h.blk.cell rfl, h.blk.cell rfl, h.blk.cell rfl⟩
theorem PX.lcell (h : PX w S g p ads cs adt ct A C bd) {i : Nat} (hi : i < 256) :
    w.cell? ⟨g, 3 + i * 4, none⟩ = some (.bool (landAt p i).there) ∧ w.cell? ⟨g, 3 + i * 4 + 1, none⟩ = some (.int .i64 ((landAt p i).gen : Int)) ∧ w.cell? ⟨g, 3 + i * 4 + 2, none⟩ = some (.slice (A i) (landAt p i).slabs.length (C i)) ∧ w.cell? ⟨g, 3 + i * 4 + 3, none⟩ = some (.int .i64 ((landAt p i).fill : Int)) :=
  ⟨h.blk.cell (poolV_land (k := 0) hi (by decide)), h.blk.cell (poolV_land (k := 1) hi (by decide)), h.blk.cell (poolV_land (k := 2) hi (by decide)), h.blk.cell (poolV_land (k := 3) hi (by decide))⟩
/-- blocks of S as they were -/
theorem PX.same (h : PX w S g p ads cs adt ct A C bd) (k : ∀ j, S j → w'.heap[j]? = w.heap[j]?) (hs : w.heap.size ≤ w'.heap.size) : PX w' S g p ads cs adt ct A C bd :=
  ⟨(k g h.sg).trans h.blk, h.row.kept (fun x hx => k x (h.srow _ hx)), h.tak.kept (fun x hx => k x (h.stak _ hx)), fun i hi => (k _ (h.sslab i hi)).trans (h.slab i hi), fun i hi => (h.land i hi).kept (fun x hx => k x (h.sland i _ hi hx)),
   h.inj, h.sep, h.sg, h.srow, h.stak, h.sslab, h.sland, fun j hj => Nat.lt_of_lt_of_le (h.lt j hj) hs⟩
theorem PX.gr (h : PX w S g p ads cs adt ct A C bd) (k : Gr w w') : PX w' S g p ads cs adt ct A C bd := h.same (fun j hj => k.block j (h.lt j hj)) k.size
theorem PoolAt.gr (h : PoolAt w S g p) (k : Gr w w') : PoolAt w' S g p := by
  obtain ⟨ads, cs, adt, ct, A, C, bd, h⟩ := h
  exact ⟨ads, cs, adt, ct, A, C, bd, h.gr k⟩
theorem PoolAt.lt (h : PoolAt w S g p) : ∀ j, S j → j < w.heap.size := by
  obtain ⟨ads, cs, adt, ct, A, C, bd, h⟩ := h
  exact h.lt
theorem PoolAt.chg {T : Nat → Prop} (h : PoolAt w S g p) (k : Chg T w w') (hd : ∀ j, S j → ¬ T j) : PoolAt w' S g p := by
  obtain ⟨ads, cs, adt, ct, A, C, bd, h⟩ := h
  exact ⟨ads, cs, adt, ct, A, C, bd, h.same (fun j hj => k.block j (h.lt j hj) (hd j hj)) k.size⟩
end
def upd {α : Type} (A : Nat → α) (i : Nat) (a : α) : Nat → α := fun j => if j = i then a else A j
theorem upd_same {α : Type} (A : Nat → α) (i : Nat) (a : α) : upd A i a i = a := by simp [upd]
theorem upd_other {α : Type} (A : Nat → α) {i j : Nat} (a : α) (h : j ≠ i) : upd A i a j = A j := by simp [upd, h]
section
variable {w w' : World} {S : Nat → Prop} {g : Nat} {p : PoolF} {ads adt : Option Addr} {cs ct : Nat} {A : Nat → Option Addr} {C bd : Nat → Nat}
theorem head_set {hd : List Value} (hh : hd.length = 3) {F : Nat → List Value} (hF : ∀ i, (F i).length = 4) {i k : Nat} (hi : i < 256) (hk : k < 4) (v : Value) :
    (hd ++ flat F 256).set (3 + i * 4 + k) v = hd ++ flat (fun j => if j = i then (F j).set k v else F j) 256 := by
  rw [List.set_append_right _ _ (by omega), hh, show 3 + i * 4 + k - 3 = i * 4 + k by omega, flat_set hF 256 i k v hi hk]
def setLand (p : PoolF) (i : Nat) (l : Land) : PoolF := { p with lands := p.lands.set i l }
theorem poolV_setLand (hl : p.lands.length = 256) {i : Nat} (hi : i < 256) (l : Land) (ad : Option Addr) (cap : Nat) :
    poolV (setLand p i l) ads cs adt ct (upd A i ad) (upd C i cap) = [.int .i64 (p.size : Int), .slice ads p.bytes.length cs, .slice adt p.taken.length ct] ++ flat (fun j => if j = i then landV l ad cap else landV (landAt p j) (A j) (C j)) 256 := by
  unfold poolV
  congr 1
  refine flat_congr _ fun j hj => ?_
  have ha : landAt (setLand p i l) j = if i = j then l else landAt p j := landAt_set p i j l (by omega)
  rw [ha]
  by_cases e : j = i
  · subst e
    rw [if_pos rfl, if_pos rfl, upd_same, upd_same]
  · rw [if_neg (fun x => e x.symm), if_neg e, upd_other _ _ e, upd_other _ _ e]
theorem poolV_set4 (hl : p.lands.length = 256) {i : Nat} (hi : i < 256) (l : Land) (ad : Option Addr) (cap : Nat) :
    ((((poolV p ads cs adt ct A C).set (3 + i * 4) (.bool l.there)).set (3 + i * 4 + 1) (.int .i64 (l.gen : Int))).set (3 + i * 4 + 2) (.slice ad l.slabs.length cap)).set (3 + i * 4 + 3) (.int .i64 (l.fill : Int)) =
      poolV (setLand p i l) ads cs adt ct (upd A i ad) (upd C i cap) := by
  rw [poolV_setLand hl hi]
  unfold poolV
  have hF : ∀ j, ((fun i => landV (landAt p i) (A i) (C i)) j).length = 4 := fun j => rfl
  have e0 := head_set (hd := [.int .i64 (p.size : Int), .slice ads p.bytes.length cs, .slice adt p.taken.length ct]) rfl hF hi (k := 0) (by decide) (.bool l.there)
  rw [Nat.add_zero] at e0
  rw [e0, head_set rfl (fun j => by split <;> rfl) hi (by decide), head_set rfl (fun j => by repeat (first | rfl | split)) hi (by decide), head_set rfl (fun j => by repeat (first | rfl | split)) hi (by decide)]
  congr 1
  refine flat_congr _ fun j hj => ?_
  by_cases e : j = i
  · subst e; simp only [if_true]; rfl
  · simp only [e, if_false]
/-- one region's cells are others: with slabs of its own, or none -/
theorem PX.put_land (h : PX w S g p ads cs adt ct A C bd) (hl : p.lands.length = 256) {i : Nat} (hi : i < 256) (l : Land) (ad : Option Addr) (cap : Nat)
    (hb : Blk w' g 119 (poolV (setLand p i l) ads cs adt ct (upd A i ad) (upd C i cap))) (k : ∀ j, S j → j ≠ g → w'.heap[j]? = w.heap[j]?) (hs : w.heap.size ≤ w'.heap.size)
    (ho : Owns w' 0 3 1 ad cap l.slabs.length (iv l.slabs)) (had : ad = none ∨ ad = A i) : PX w' S g (setLand p i l) ads cs adt ct (upd A i ad) (upd C i cap) bd := by
  have hg1 := h.blk.owns_ne h.row (by decide)
  have hg2 := h.blk.owns_ne h.tak (by decide)
  have hg3 : ∀ j, j < 256 → ∀ x, A j = some x → x.block ≠ g := fun j hj => h.blk.owns_ne (h.land j hj) (by decide)
  have ha : ∀ j, landAt (setLand p i l) j = if i = j then l else landAt p j := fun j => landAt_set p i j l (by omega)
  have hA : ∀ j x, j < 256 → upd A i ad j = some x → A j = some x := fun j x hj hx => by
    by_cases e : j = i
    · subst e; rw [upd_same] at hx; rcases had with h1 | h1
      · rw [h1] at hx; cases hx
      · rw [← h1]; exact hx
    · rw [upd_other _ _ e] at hx; exact hx
  refine ⟨hb, h.row.kept (fun x hx => k x (h.srow _ hx) (hg1 _ hx)), h.tak.kept (fun x hx => k x (h.stak _ hx) (hg2 _ hx)), fun j hj => (k _ (h.sslab j hj) ((h.slab j hj).ne h.blk (by decide))).trans (h.slab j hj), fun j hj => ?_, h.inj,
    fun a b x y ha hb hx hy => h.sep a b x y ha hb (hA a x ha hx) (hA b y hb hy), h.sg, h.srow, h.stak, h.sslab, fun a x ha hx => h.sland a x ha (hA a x ha hx), fun j hj => Nat.lt_of_lt_of_le (h.lt j hj) hs⟩
  rw [ha]
  by_cases e : j = i
  · subst e; rw [if_pos rfl, upd_same, upd_same]; exact ho
  · rw [if_neg (fun x => e x.symm), upd_other _ _ e, upd_other _ _ e]
    exact (h.land j hj).kept (fun x hx => k x (h.sland j _ hj hx) (hg3 j hj _ hx))
end
/-- a pool turned to p' by a call -/
structure Moved (S : Nat → Prop) (g : Nat) (p' : PoolF) (w w' : World) (S' : Nat → Prop) : Prop where
  chg : Chg S w w'
  sub : ∀ j, S' j → S j ∨ w.heap.size ≤ j
  pool : PoolAt w' S' g p'
/-- a region's four cells are written: it has no slabs then -/
theorem PX.put4 {w : World} {S : Nat → Prop} {g : Nat} {p : PoolF} {ads adt : Option Addr} {cs ct : Nat} {A : Nat → Option Addr} {C bd : Nat → Nat} (h : PX w S g p ads cs adt ct A C bd) (hl : p.lands.length = 256) {i : Nat} (hi : i < 256) (t : Bool) (n : Nat) :
    Moved S g (setLand p i ⟨t, n, [], 0⟩) w ((((w.setCell ⟨g, 3 + i * 4, none⟩ (.bool t)).setCell ⟨g, 3 + i * 4 + 1, none⟩ (.int .i64 (n : Int))).setCell ⟨g, 3 + i * 4 + 2, none⟩ (.slice none 0 0)).setCell ⟨g, 3 + i * 4 + 3, none⟩ (.int .i64 0)) S := by
  have hk := grown_trans (grown_trans (grown_trans (grown_set w g (3 + i * 4) (.bool t)) (grown_set _ g (3 + i * 4 + 1) (.int .i64 (n : Int)))) (grown_set _ g (3 + i * 4 + 2) (.slice none 0 0))) (grown_set _ g (3 + i * 4 + 3) (.int .i64 0))
  have hb := (((h.blk.set_ (3 + i * 4) (.bool t)).set_ (3 + i * 4 + 1) (.int .i64 (n : Int))).set_ (3 + i * 4 + 2) (.slice none 0 0)).set_ (3 + i * 4 + 3) (.int .i64 0)
  have e := poolV_set4 (ads := ads) (cs := cs) (adt := adt) (ct := ct) (A := A) (C := C) hl hi ⟨t, n, [], 0⟩ none 0
  refine ⟨Chg.grown hk h.sg, fun j hj => .inl hj, ads, cs, adt, ct, _, _, bd, h.put_land hl hi ⟨t, n, [], 0⟩ none 0 (e ▸ hb) (fun j hj hne => hk.block j (h.lt j hj) (fun e => hne (Option.some.inj e))) hk.size (Owns.empty _ _ _ _) (.inl rfl)⟩
theorem Moved.after {S S' : Nat → Prop} {g : Nat} {p' : PoolF} {w v w' : World} (h : Chg S w v) (k : Moved S g p' v w' S') : Moved S g p' w w' S' :=
  ⟨h.trans k.chg (fun j hj => .inl hj), fun j hj => by
    rcases k.sub j hj with h1 | h1
    · exact .inl h1
    · exact .inr (Nat.le_trans h.size h1), k.pool⟩
theorem Moved.then {S S' S2 : Nat → Prop} {g : Nat} {p' p2 : PoolF} {w v w' : World} (h : Moved S g p' w v S') (k : Moved S' g p2 v w' S2) : Moved S g p2 w w' S2 :=
  ⟨h.chg.trans k.chg h.sub, fun j hj => by
    rcases k.sub j hj with h1 | h1
    · exact h.sub j h1
    · exact .inr (Nat.le_trans h.chg.size h1), k.pool⟩
theorem Moved.gr {S S' : Nat → Prop} {g : Nat} {p' : PoolF} {w v w' : World} (h : Moved S g p' w v S') (k : Gr v w') : Moved S g p' w w' S' :=
  ⟨h.chg.trans (S' := S) k.chg (fun j hj => .inl hj), h.sub, h.pool.gr k⟩
theorem Moved.refl {S : Nat → Prop} {g : Nat} {p : PoolF} {w : World} (h : PoolAt w S g p) : Moved S g p w w S := ⟨Chg.refl _, fun j hj => .inl hj, h⟩
end Go.Proofs.YtpaogoehgkoaeaaGreatDoor
/- Layer 1 (region): the pool's small calls walked: land, Size, Make, Idle. -/
namespace Go.Proofs.YtpaogoehgkoaeaaGreatDoor
set_option linter.unusedVariables false
set_option linter.unusedSimpArgs false
open Go.RowKit
set_option maxRecDepth 100000 in
theorem land_any (w : World) (S : Nat → Prop) (g : Nat) (p : PoolF) (r : Int) (h : PoolAt w S g p) :
    Calls Tryz.prog 112 #[.pointer (some ⟨g, 0, none⟩), .int .i64 r] w fun e w' => e = .returned (.pointer ((landF p r).map fun i => ⟨g, 3 + i * 4, none⟩)) ∧ w = w' := by
  obtain ⟨ads, cs, adt, ct, A, C, bd, hx⟩ := h
  by_cases h0 : r < 0
  · have hn : landF p r = none := by unfold landF; rw [if_neg (by omega)]
    rw [hn]
    clear hx hn
    go_enter Tryz.func112, Tryz.ntmps112
    go_wp2
    go_ret
    exact ⟨rfl, rfl⟩
  · by_cases h1 : 256 ≤ r
    · have hn : landF p r = none := by unfold landF; rw [if_neg (by omega)]
      rw [hn]
      clear hx hn
      go_enter Tryz.func112, Tryz.ntmps112
      go_wp2
      go_ret
      exact ⟨rfl, rfl⟩
    · obtain ⟨i, rfl⟩ : ∃ i : Nat, r = (i : Int) := ⟨r.toNat, by omega⟩
      have hi : i < 256 := by omega
      obtain ⟨c0, _, _, _⟩ := hx.lcell hi
      clear hx
      cases ht : (landAt p i).there with
      | false =>
        have hn : landF p (i : Int) = none := by unfold landF; rw [if_neg (by simp [ht])]
        rw [ht] at c0
        rw [hn]
        clear hn ht
        go_enter Tryz.func112, Tryz.ntmps112
        go_wp2
        go_ret
        exact ⟨rfl, rfl⟩
      | true =>
        rw [landF_of hi ht]
        rw [ht] at c0
        clear ht
        go_enter Tryz.func112, Tryz.ntmps112
        go_wp2
        go_ret
        exact ⟨rfl, rfl⟩
set_option maxRecDepth 100000 in
theorem Size_any (w : World) (S : Nat → Prop) (g : Nat) (p : PoolF) (h : PoolAt w S g p) :
    Calls Tryz.prog 57 #[.pointer (some ⟨g, 0, none⟩)] w fun e w' => e = .returned (.int .i64 (p.size : Int)) ∧ w = w' := by
  obtain ⟨ads, cs, adt, ct, A, C, bd, hx⟩ := h
  obtain ⟨c0, _, _⟩ := hx.head
  clear hx
  go_enter Tryz.func57, Tryz.ntmps57
  go_wp2
  go_ret
  exact ⟨rfl, rfl⟩
def makeR (p : PoolF) : Nat × Nat × PoolF := match makeF p with | some i => (i, 0, makeAt p i) | none => (0, 5, p)
set_option maxRecDepth 100000 in
theorem Make_any (w : World) (S : Nat → Prop) (g : Nat) (p : PoolF) (h : PoolAt w S g p) (hp : PoolOk p) (hgen : ∀ i, i < 256 → (landAt p i).gen ≤ 1000000000) :
    Calls Tryz.prog 58 #[.pointer (some ⟨g, 0, none⟩)] w fun e w' => e = .returned (.tuple #[.int .i64 ((makeR p).1 : Int), .int .i64 ((makeR p).2.1 : Int)]) ∧ Moved S g (makeR p).2.2 w w' S := by
  have HP := Lib.hid h
  obtain ⟨ads, cs, adt, ct, A, C, bd, hx⟩ := h
  have HX := Lib.hid hx
  have HL := Lib.hid hp.ln
  clear hx hp
  go_enter Tryz.func58, Tryz.ntmps58
  go_wp2
  go_loopw [8] (fun v wr => ∃ i : Nat, i ≤ 256 ∧ v = .int .i64 (i : Int) ∧ wr = w ∧ ∀ j, j < i → (landAt p j).there = true) (fun v _ => 256 - (intOf v).toNat)
  case atStart => exact ⟨0, by omega, rfl, by first | rfl | trivial, fun j hj => by omega⟩
  case round =>
    obtain ⟨i, hi, rfl, rfl, hall⟩ := hrel
    by_cases hib : i < 256
    · obtain ⟨c0, c1, c2, c3⟩ := HX.out.lcell hib
      have hg := hgen i hib
      cases ht : (landAt p i).there with
      | true =>
        rw [ht] at c0
        have HA := Lib.hid (show ∀ j, j < i + 1 → (landAt p j).there = true from fun j hj => by
          by_cases e : j = i
          · subst e; exact ht
          · exact hall j (by omega))
        clear hall ht
        go_wp2
        go_roundw
        case rel => exact ⟨i + 1, hib, by go_num, by first | rfl | trivial, HA.out⟩
        case measure => simp [intOf]; omega
      | false =>
        rw [ht] at c0
        have HM := Lib.hid (makeF_is hib ht hall)
        have f0 := HX.out.blk.frozen (3 + i * 4)
        have f1 := HX.out.blk.frozen (3 + i * 4 + 1)
        have f2 := HX.out.blk.frozen (3 + i * 4 + 2)
        have f3 := HX.out.blk.frozen (3 + i * 4 + 3)
        clear hall ht hgen
        go_wp2
        go_ret2
        unfold makeR
        rw [HM.out]
        exact ⟨rfl, HX.out.put4 HL.out hib true ((landAt p i).gen + 1)⟩
    · obtain rfl : i = 256 := by omega
      have HM := Lib.hid (makeF_isnone hall)
      clear hall
      go_wp2
      go_ret2
      unfold makeR
      rw [HM.out]
      exact ⟨rfl, Chg.refl _, fun j hj => .inl hj, HP.out⟩
theorem taken_get (l : List Bool) (i : Nat) (hi : i < l.length) : (l.map Value.bool)[i]? = some (.bool (l.getD i false)) := by
  simp [hi]
def idleI (p : PoolF) : Int := match idleF p with | some s => (s : Int) | none => -1
theorem idleF_is {p : PoolF} {i : Nat} (hi : i < p.taken.length) (h0 : p.taken.getD i false = false) (h1 : ∀ j, j < i → p.taken.getD j false = true) : idleF p = some i := by
  unfold idleF
  rw [List.find?_range_eq_some]
  exact ⟨by rw [h0]; rfl, by simpa using hi, fun j hj => by rw [h1 j hj]; rfl⟩
theorem idleF_isnone {p : PoolF} (h1 : ∀ j, j < p.taken.length → p.taken.getD j false = true) : idleF p = none := by
  unfold idleF
  rw [List.find?_eq_none]
  intro j hj
  rw [h1 j (by simpa using hj)]; decide
set_option maxRecDepth 100000 in
theorem Index_any (w : World) (p : PoolF) (adt : Option Addr) (ct : Nat) (hr : Row w adt (p.taken.map Value.bool)) (hn : p.taken.length ≤ 4096) :
    Calls Tryz.prog 152 #[.slice adt p.taken.length ct, .bool false] w fun e w' => e = .returned (.int .i64 (idleI p)) ∧ w = w' := by
  have HT := Lib.hid hr
  clear hr
  go_enter Tryz.func152, Tryz.ntmps152
  go_wp2
  go_loopw [8] (fun v wr => ∃ i : Nat, i ≤ p.taken.length ∧ v = .int .i64 (i : Int) ∧ wr = w ∧ ∀ j, j < i → p.taken.getD j false = true) (fun v _ => p.taken.length - (intOf v).toNat)
  case atStart => exact ⟨0, Nat.zero_le _, rfl, by first | rfl | trivial, fun j hj => by omega⟩
  case round =>
    obtain ⟨i, hi, rfl, rfl, hall⟩ := hrel
    by_cases hib : i < p.taken.length
    · obtain ⟨b, off, rfl, c⟩ := HT.out i _ (taken_get _ i hib)
      cases ht : p.taken.getD i false with
      | true =>
        have HA := Lib.hid (show ∀ j, j < i + 1 → p.taken.getD j false = true from fun j hj => by
          by_cases e : j = i
          · subst e; exact ht
          · exact hall j (by omega))
        rw [ht] at c
        clear ht hall
        go_wp2
        go_roundw
        case rel => exact ⟨i + 1, hib, by go_num, by first | rfl | trivial, HA.out⟩
        case measure => simp [intOf]; omega
      | false =>
        have HM := Lib.hid (idleF_is hib ht hall)
        rw [ht] at c
        clear ht hall
        go_wp2
        go_ret
        unfold idleI
        rw [HM.out]
        exact ⟨rfl, rfl⟩
    · obtain rfl : i = p.taken.length := by omega
      have HM := Lib.hid (idleF_isnone hall)
      clear hall
      go_wp2
      go_ret
      unfold idleI
      rw [HM.out]
      exact ⟨rfl, rfl⟩
end Go.Proofs.YtpaogoehgkoaeaaGreatDoor
/- Layer 1 (region): what a step does to a pool in memory; clear, copy and make of whole blocks. -/
namespace Go.Proofs.YtpaogoehgkoaeaaGreatDoor
set_option linter.unusedVariables false
set_option linter.unusedSimpArgs false
open Go.RowKit
theorem elemRow : Elem Tryz.prog 114 31 (.slice none 0 0) 1 24 := ⟨by kernel_rfl, by kernel_rfl, rfl, by decide⟩
section
variable {P : Program}
theorem run_clear_blk {t e ty : TypeId} {z : Value} {bytes : Nat} (E : Elem P t e z 1 bytes) (hz : z.cells = #[z]) (h1 : z.oneCell' = true) (w : World) (b : Nat) (cs : List Value) (hb : Blk w b e cs) (c : Nat) (hn : 0 < cs.length) :
    (Builtin.clear_ #[t] ty #[.slice (some ⟨b, 0, none⟩) cs.length c]).run P w = .ok (.tuple #[]) (w.setRow b (List.replicate cs.length z).toArray) := by
  obtain ⟨ht, hinfo, _, _⟩ := E
  obtain ⟨i, hi, hz0, hsize, hby⟩ := info_parts hinfo
  have hv : ∀ w, (zeroValue e).run P w = .ok z w := fun w => by simp [zeroValue, typeInfo, hi, hz0]
  have hzc : (Builtin.zeroCells z.cells cs.length).toList = List.replicate cs.length z := by
    rw [hz]
    simp [Builtin.zeroCells]
    apply List.ext_getElem
    · simp
    · intro i h1 h2
      simp [Nat.mod_one]
  have hst := run_storeCells_un (P := P) b 0 e (0, 0) (List.replicate cs.length z) 0 cs.toArray w hb (by simp) (by simp) (fun v hv' => by rw [List.eq_of_mem_replicate hv']; exact h1)
  simp only [Nat.add_zero, Nat.zero_add, List.take_zero, List.nil_append, List.length_replicate, List.drop_length, List.append_nil] at hst
  obtain ⟨m, hm⟩ : ∃ m, cs.length = m + 1 := ⟨cs.length - 1, by omega⟩
  rw [hm] at hst hzc ⊢
  simp only [Builtin.clear_]
  simp [run_underlying ht, hv, hzc, hst]
theorem wp_clear {t e : TypeId} {z : Value} {bytes : Nat} (E : Elem P t e z 1 bytes) (hz : z.cells = #[z]) (h1 : z.oneCell' = true) {w : World} {ops : Array Oper} {rest : List Oper} {o : Oper} {a : Act} {Q : Exit → Act → World → Prop} (hgd : o.guard = none) (x : Operand)
    (ho : o.op = .call { callee := .builtin .clear, args := #[x], argTypes := #[t] }) {b c n : Nat} {cs : List Value} (hx : a.eval x = .slice (some ⟨b, 0, none⟩) n c) (hb : Blk w b e cs) (hn : cs.length = n) (h0 : 0 < n)
    (h : ∀ w', Blk w' b e (List.replicate n z) → w.grownBy w' (some b) → wpList P ops Q rest (a.put o.dst (.tuple #[])) w') : wpList P ops Q (o :: rest) a w := by
  subst hn
  refine wpList_plain hgd fun K hK => ?_
  have hr := run_clear_blk (ty := o.type) E hz h1 w b cs hb c h0
  unfold Oper.wp execOp
  simp only [ho, resolve, invoke, builtin, Sem.run_bind, Sem.run_pure, Result.andThen_ok, List.map_toArray, List.map_cons, List.map_nil, hx, hr]
  exact hK _ _ (h _ (hb.setRow _) (grown_setRow _ _ _))
end
section
variable {w w' : World} {S : Nat → Prop} {g : Nat} {p : PoolF} {ads adt : Option Addr} {cs ct : Nat} {A : Nat → Option Addr} {C bd : Nat → Nat}
def setTaken (p : PoolF) (s : Nat) (b : Bool) : PoolF := { p with taken := p.taken.set s b }
def setBytes (p : PoolF) (s : Nat) (b : List UInt8) : PoolF := { p with bytes := p.bytes.set s b }
theorem map_set_bool (l : List Bool) (s : Nat) (b : Bool) : (l.set s b).map Value.bool = (l.map Value.bool).set s (.bool b) := by rw [List.map_set]
theorem bytesAt_set (p : PoolF) (s i : Nat) (b : List UInt8) (hs : s < p.bytes.length) : bytesAt (setBytes p s b) i = if s = i then b else bytesAt p i := by
  unfold bytesAt setBytes
  simp only [List.getD_eq_getElem?_getD, List.getElem?_set]
  by_cases h : s = i
  · subst h; simp [hs]
  · simp [h]
/-- a slab is taken, or let go -/
theorem PX.put_taken (h : PX w S g p ads cs adt ct A C bd) {bt s : Nat} (ht : adt = some ⟨bt, 0, none⟩) (hs : s < p.taken.length) (b : Bool) :
    PX (w.setCell ⟨bt, s, none⟩ (.bool b)) S g (setTaken p s b) ads cs adt ct A C bd := by
  have k := grown_set w bt s (.bool b)
  have hne := h.blk.owns_ne h.tak (by decide) _ ht
  simp only at hne
  refine ⟨?_, h.row.grown k (fun x hx e => (h.row.ne h.tak (by decide)) x _ hx ht (Option.some.inj e)), ?_, fun i hi => (h.slab i hi).grown k (fun e => (h.slab i hi).owns_ne h.tak (by decide) _ ht (Option.some.inj e).symm), fun i hi => (h.land i hi).grown k (fun x hx e => (h.land i hi).ne h.tak (by decide) x _ hx ht (Option.some.inj e)),
    h.inj, h.sep, h.sg, h.srow, h.stak, h.sslab, h.sland, fun j hj => Nat.lt_of_lt_of_le (h.lt j hj) k.size⟩
  · have e : poolV (setTaken p s b) ads cs adt ct A C = poolV p ads cs adt ct A C := by
      unfold poolV setTaken
      simp only [List.length_set]
      rfl
    rw [e]
    exact h.blk.grown k (fun e => hne (Option.some.inj e).symm)
  · have := h.tak.store ht hs (.bool b)
    rw [← map_set_bool] at this
    show Owns _ 0 _ 1 adt ct (p.taken.set s b).length ((p.taken.set s b).map .bool)
    rw [List.length_set]
    exact this
/-- a slab's bytes are others -/
theorem PX.put_bytes (h : PX w S g p ads cs adt ct A C bd) {s : Nat} (hs : s < p.bytes.length) (l : List UInt8) (hb : Blk w' (bd s) 5 (bv l)) (k : w.grownBy w' (some (bd s))) :
    PX w' S g (setBytes p s l) ads cs adt ct A C bd := by
  have e : poolV (setBytes p s l) ads cs adt ct A C = poolV p ads cs adt ct A C := by
    unfold poolV setBytes
    simp only [List.length_set]
    rfl
  have hl : (setBytes p s l).bytes.length = p.bytes.length := List.length_set
  refine ⟨?_, ?_, h.tak.grown k (fun x hx e => (h.slab s hs).owns_ne h.tak (by decide) x hx (Option.some.inj e)), fun i hi => ?_, fun i hi => (h.land i hi).grown k (fun x hx e => (h.slab s hs).owns_ne (h.land i hi) (by decide) x hx (Option.some.inj e)),
    fun i j hi hj => h.inj i j (by omega) (by omega), h.sep, h.sg, h.srow, h.stak, fun i hi => h.sslab i (by omega), h.sland, fun j hj => Nat.lt_of_lt_of_le (h.lt j hj) k.size⟩
  · rw [e]
    exact h.blk.grown k (fun e => (h.slab s hs).ne h.blk (by decide) (Option.some.inj e).symm)
  · rw [hl]
    exact h.row.grown k (fun x hx e => (h.slab s hs).owns_ne h.row (by decide) x hx (Option.some.inj e))
  · rw [hl] at hi
    rw [bytesAt_set p s i l hs]
    by_cases e : s = i
    · subst e; rw [if_pos rfl]; exact hb
    · rw [if_neg e]
      exact (h.slab i hi).grown k (fun x => e (h.inj i s hi hs (Option.some.inj x)).symm)
theorem poolV_set1 (hl : p.lands.length = 256) {i k : Nat} (hi : i < 256) (hk : k < 4) (v : Value) (l : Land) (ad : Option Addr) (cap : Nat) (hv : (landV (landAt p i) (A i) (C i)).set k v = landV l ad cap) :
    (poolV p ads cs adt ct A C).set (3 + i * 4 + k) v = poolV (setLand p i l) ads cs adt ct (upd A i ad) (upd C i cap) := by
  rw [poolV_setLand hl hi]
  unfold poolV
  rw [head_set rfl (fun j => rfl) hi hk]
  congr 1
  refine flat_congr _ fun j hj => ?_
  by_cases e : j = i
  · subst e; rw [if_pos rfl, if_pos rfl]; exact hv
  · rw [if_neg e, if_neg e]
theorem upd_id {α : Type} (A : Nat → α) (i : Nat) : upd A i (A i) = A := by
  funext j
  by_cases h : j = i
  · subst h; rw [upd_same]
  · rw [upd_other _ _ h]
/-- how far a region is handed out -/
theorem PX.put_fill (h : PX w S g p ads cs adt ct A C bd) (hl : p.lands.length = 256) {i : Nat} (hi : i < 256) (f : Nat) :
    PX (w.setCell ⟨g, 3 + i * 4 + 3, none⟩ (.int .i64 (f : Int))) S g (fillAt p i f) ads cs adt ct A C bd := by
  have k := grown_set w g (3 + i * 4 + 3) (.int .i64 (f : Int))
  have hb := h.blk.set_ (3 + i * 4 + 3) (.int .i64 (f : Int))
  have e := poolV_set1 (ads := ads) (cs := cs) (adt := adt) (ct := ct) (A := A) (C := C) hl hi (k := 3) (by decide) (.int .i64 (f : Int)) ⟨(landAt p i).there, (landAt p i).gen, (landAt p i).slabs, f⟩ (A i) (C i) rfl
  have := h.put_land hl hi ⟨(landAt p i).there, (landAt p i).gen, (landAt p i).slabs, f⟩ (A i) (C i) (e ▸ hb) (fun j hj hne => k.block j (h.lt j hj) (fun e => hne (Option.some.inj e))) k.size
    ((h.land i hi).grown k (fun x hx e => h.blk.owns_ne (h.land i hi) (by decide) x hx (Option.some.inj e))) (.inr rfl)
  rw [upd_id, upd_id] at this
  exact this
/-- a region has a slab more -/
theorem PX.put_slab (h : PX w S g p ads cs adt ct A C bd) (hl : p.lands.length = 256) {i s : Nat} (hi : i < 256) {w4 : World} {ad : Option Addr} {cap : Nat} (k : w.grownBy w4 ((A i).map (·.block)))
    (o : Owns w4 0 3 1 ad cap ((landAt p i).slabs.length + 1) (iv ((landAt p i).slabs ++ [s]))) (f : ∀ a, ad = some a → A i = some a ∨ w.heap.size ≤ a.block) :
    ∃ S', Moved S g (setLand p i ⟨(landAt p i).there, (landAt p i).gen, (landAt p i).slabs ++ [s], (landAt p i).fill⟩) w (w4.setCell ⟨g, 3 + i * 4 + 2, none⟩ (.slice ad ((landAt p i).slabs.length + 1) cap)) S' := by
  have hAg : ∀ x, A i = some x → x.block ≠ g := h.blk.owns_ne (h.land i hi) (by decide)
  have hgl := h.lt g h.sg
  have hne : ∀ x, ad = some x → x.block ≠ g := fun x hx e => by
    rcases f x hx with h1 | h1
    · exact hAg x h1 e
    · omega
  have hk4 : ∀ j, j < w.heap.size → (∀ x, A i = some x → x.block ≠ j) → w4.heap[j]? = w.heap[j]? := fun j hj hx => k.block j hj (fun e => by
    cases hA : A i with
    | none => rw [hA] at e; cases e
    | some x => rw [hA] at e; exact hx x hA (Option.some.inj e).symm)
  have hb4 : Blk w4 g 119 (poolV p ads cs adt ct A C) := (hk4 g hgl hAg).trans h.blk
  have k5 := grown_set w4 g (3 + i * 4 + 2) (.slice ad ((landAt p i).slabs.length + 1) cap)
  have hb5 := hb4.set_ (3 + i * 4 + 2) (.slice ad ((landAt p i).slabs.length + 1) cap)
  have hlen : (landAt p i).slabs.length + 1 = ((landAt p i).slabs ++ [s]).length := by simp
  rw [poolV_set1 (ads := ads) (cs := cs) (adt := adt) (ct := ct) (A := A) (C := C) hl hi (k := 2) (by decide) (.slice ad ((landAt p i).slabs.length + 1) cap) ⟨(landAt p i).there, (landAt p i).gen, (landAt p i).slabs ++ [s], (landAt p i).fill⟩ ad cap (by rw [hlen]; rfl)] at hb5
  have hall : ∀ j, j < w.heap.size → j ≠ g → (∀ x, A i = some x → x.block ≠ j) → (w4.setCell ⟨g, 3 + i * 4 + 2, none⟩ (.slice ad ((landAt p i).slabs.length + 1) cap)).heap[j]? = w.heap[j]? := fun j hj hjg hx => (k5.block j (Nat.lt_of_lt_of_le hj k.size) (fun e => hjg (Option.some.inj e))).trans (hk4 j hj hx)
  have ha : ∀ j, landAt (setLand p i ⟨(landAt p i).there, (landAt p i).gen, (landAt p i).slabs ++ [s], (landAt p i).fill⟩) j = if i = j then ⟨(landAt p i).there, (landAt p i).gen, (landAt p i).slabs ++ [s], (landAt p i).fill⟩ else landAt p j := fun j => landAt_set p i j _ (by omega)
  refine ⟨fun j => S j ∨ (w.heap.size ≤ j ∧ j < w4.heap.size), ⟨?_, ?_, ?_⟩⟩
  · refine ⟨k5.os.trans k.os, k5.tape.trans k.tape, k5.output.trans k.output, Nat.le_trans k.size k5.size, fun j hj hn => hall j hj (fun e => hn (e ▸ h.sg)) (fun x hx e => hn (e ▸ h.sland i x hi hx))⟩
  · intro j hj
    rcases hj with h1 | h1
    · exact .inl h1
    · exact .inr h1.1
  refine ⟨ads, cs, adt, ct, upd A i ad, upd C i cap, bd, hb5, h.row.kept (fun b hb => hall b (h.lt _ (h.srow _ hb)) (h.blk.owns_ne h.row (by decide) _ hb) (fun x hx => (h.land i hi).ne h.row (by decide) x _ hx hb)), h.tak.kept (fun b hb => hall b (h.lt _ (h.stak _ hb)) (h.blk.owns_ne h.tak (by decide) _ hb) (fun x hx => (h.land i hi).ne h.tak (by decide) x _ hx hb)),
    fun j hj => (hall _ (h.lt _ (h.sslab j hj)) ((h.slab j hj).ne h.blk (by decide)) (fun x hx => (h.slab j hj).owns_ne (h.land i hi) (by decide) x hx)).trans (h.slab j hj), fun j hj => ?_, h.inj, fun a b x y ha3 hb3 hx hy hxy => ?_, .inl h.sg, fun x hx => .inl (h.srow x hx), fun x hx => .inl (h.stak x hx), fun j hj => .inl (h.sslab j hj), fun j x hj hx => ?_, fun j hj => ?_⟩
  · rw [ha]
    by_cases e : j = i
    · subst e
      rw [if_pos rfl, upd_same, upd_same]
      have := o.grown k5 (fun x hx e => hne x hx (Option.some.inj e))
      rw [hlen] at this
      simpa using this
    · rw [if_neg (fun x => e x.symm), upd_other _ _ e, upd_other _ _ e]
      exact (h.land j hj).kept (fun b hb => hall b (h.lt _ (h.sland j _ hj hb)) (h.blk.owns_ne (h.land j hj) (by decide) _ hb) (fun x hx e2 => e (h.sep i j x _ hi hj hx hb e2).symm))
  · by_cases ea : a = i
    · by_cases eb : b = i
      · omega
      · subst ea
        rw [upd_same] at hx
        rw [upd_other _ _ eb] at hy
        rcases f x hx with h1 | h1
        · exact h.sep a b x y ha3 hb3 h1 hy hxy
        · have := h.lt _ (h.sland b y hb3 hy); omega
    · rw [upd_other _ _ ea] at hx
      by_cases eb : b = i
      · subst eb
        rw [upd_same] at hy
        rcases f y hy with h1 | h1
        · exact h.sep a b x y ha3 hb3 hx h1 hxy
        · have := h.lt _ (h.sland a x ha3 hx); omega
      · rw [upd_other _ _ eb] at hy
        exact h.sep a b x y ha3 hb3 hx hy hxy
  · by_cases e : j = i
    · subst e
      rw [upd_same] at hx
      rcases f x hx with h1 | h1
      · exact .inl (h.sland j x hj h1)
      · exact .inr ⟨h1, (o.lt x hx).2⟩
    · rw [upd_other _ _ e] at hx
      exact .inl (h.sland j x hj hx)
  · rcases hj with h1 | h1
    · exact Nat.lt_of_lt_of_le (h.lt j h1) (Nat.le_trans k.size k5.size)
    · exact Nat.lt_of_lt_of_le h1.2 k5.size
end
theorem Moved.finish {w W3 W5 : World} {S S2 : Nat → Prop} {g : Nat} {p2 : PoolF} {ads adt : Option Addr} {cs ct : Nat} {A : Nat → Option Addr} {C bd : Nat → Nat} (h : Moved S g p2 w W3 S2) (hx : PX W3 S2 g p2 ads cs adt ct A C bd) (hl : p2.lands.length = 256) {i : Nat} (hi : i < 256) (f : Nat)
    {gh : Nat} (hg : ¬ S2 gh) (hw : w.heap.size ≤ gh) (k : (W3.setCell ⟨g, 3 + i * 4 + 3, none⟩ (.int .i64 (f : Int))).grownBy W5 (some gh)) : Moved S g (fillAt p2 i f) w W5 S2 := by
  have k1 := grown_set W3 g (3 + i * 4 + 3) (.int .i64 (f : Int))
  have hc := h.chg.trans (Chg.grown k1 hx.sg) h.sub
  have hp := hx.put_fill hl hi f
  refine ⟨⟨k.os.trans hc.os, k.tape.trans hc.tape, k.output.trans hc.output, Nat.le_trans hc.size k.size, fun j hj hn => (k.block j (Nat.lt_of_lt_of_le hj hc.size) (fun e => by have := Option.some.inj e; omega)).trans (hc.block j hj hn)⟩, h.sub, ads, cs, adt, ct, A, C, bd, hp.same (fun j hj => k.block j (hp.lt j hj) (fun e => hg ((Option.some.inj e) ▸ hj))) k.size⟩
def hdv (h : Hd) : Value := .agg #[.int .i64 h.region, .int .i64 h.gen, .int .i64 h.off, .int .i64 h.len]
theorem Blk.four {w : World} {g : Nat} {t : TypeId} {a b c d : Value} (h : Blk w g t [a, b, c, d]) : w.cell? ⟨g, 0, none⟩ = some a ∧ w.cell? ⟨g, 1, none⟩ = some b ∧ w.cell? ⟨g, 2, none⟩ = some c ∧ w.cell? ⟨g, 3, none⟩ = some d ∧ w.frozen? ⟨g, 0, none⟩ = false ∧ w.frozen? ⟨g, 1, none⟩ = false ∧ w.frozen? ⟨g, 2, none⟩ = false ∧ w.frozen? ⟨g, 3, none⟩ = false :=
  ⟨h.cell rfl, h.cell rfl, h.cell rfl, h.cell rfl, h.frozen _, h.frozen _, h.frozen _, h.frozen _⟩
theorem iv_get (l : List Nat) (i s : Nat) (h : l[i]? = some s) : (iv l)[i]? = some (.int .i64 (s : Int)) := by simp [iv, h]
theorem slabV_get {bd : Nat → Nat} {size n i : Nat} (h : i < n) : (slabV bd size n)[i]? = some (.slice (some ⟨bd i, 0, none⟩) size size) := by simp [slabV, h]
end Go.Proofs.YtpaogoehgkoaeaaGreatDoor
namespace Go.Proofs.YtpaogoehgkoaeaaGreatDoor
set_option linter.unusedVariables false
set_option linter.unusedSimpArgs false
open Go.RowKit
theorem foldl_set_len {α β : Type} (l : List Nat) (x : β) : ∀ (b : List β), (l.foldl (fun bs s => bs.set s x) b).length = b.length := by
  induction l with
  | nil => intro b; rfl
  | cons s t ih => intro b; rw [List.foldl_cons, ih, List.length_set]
theorem freeSlabs_len (p : PoolF) (l : List Nat) : (freeSlabs p l).bytes.length = p.bytes.length ∧ (freeSlabs p l).taken.length = p.taken.length := ⟨foldl_set_len (α := Nat) l _ _, foldl_set_len (α := Nat) l _ _⟩
theorem freeSlabs_snoc (p : PoolF) (l : List Nat) (s : Nat) : freeSlabs p (l ++ [s]) = setTaken (setBytes (freeSlabs p l) s (List.replicate p.size 0xDD)) s false := by
  unfold freeSlabs setTaken setBytes
  simp only [List.foldl_append, List.foldl_cons, List.foldl_nil]
theorem setBytes_twice (p : PoolF) (s : Nat) (a b : List UInt8) : setBytes (setBytes p s a) s b = setBytes p s b := by unfold setBytes; simp only [List.set_set]
theorem poison_step (x : UInt8) (l : List UInt8) (j : Nat) (hj : j < l.length) : (List.replicate j x ++ l.drop j).set j x = List.replicate (j + 1) x ++ l.drop (j + 1) := by
  rw [List.set_append_right _ _ (by simp), List.length_replicate, Nat.sub_self, List.replicate_succ', List.append_assoc]
  congr 1
  rw [List.drop_eq_getElem_cons hj, List.set_cons_zero]
  rfl
theorem bytesAt_foldl_len (sz : Nat) (x : List UInt8) (hx : x.length = sz) : ∀ (l : List Nat) (b : List (List UInt8)), (∀ y ∈ b, y.length = sz) → ∀ y ∈ l.foldl (fun bs s => bs.set s x) b, y.length = sz
  | [], _, h => h
  | s :: t, b, h => by
    rw [List.foldl_cons]
    refine bytesAt_foldl_len sz x hx t _ fun y hy => ?_
    rcases List.mem_or_eq_of_mem_set hy with h1 | h1
    · exact h y h1
    · rw [h1]; exact hx
set_option maxRecDepth 100000 in
set_option maxHeartbeats 4000000 in
theorem Free_any (w : World) (S : Nat → Prop) (g : Nat) (p : PoolF) (r : Int) (h : PoolAt w S g p) (hp : PoolOk p) :
    Calls Tryz.prog 72 #[.pointer (some ⟨g, 0, none⟩), .int .i64 r] w fun e w' => e = .returned (.int .i64 ((freeF p r).1 : Int)) ∧ Moved S g (freeF p r).2 w w' S := by
  have HLA := Lib.hid (land_any w S g p r h)
  have HPO := Lib.hid h
  cases hl : landF p r with
  | none =>
    rw [hl] at HLA
    have he : freeF p r = (7, p) := by unfold freeF; rw [hl]
    rw [he]
    clear h hp he hl
    go_enter Tryz.func72, Tryz.ntmps72
    go_wp2_with (first
      | (go_at_call 112; refine HLA.out.mono ?_; rintro e w1 ⟨rfl, rfl⟩)
      | fail)
    go_ret
    exact ⟨rfl, Moved.refl HPO.out⟩
  | some i =>
    rw [hl] at HLA
    obtain ⟨rfl, hi, _⟩ := landF_some hl
    obtain ⟨ads, cs, adt, ct, A, C, bd, hx⟩ := h
    obtain ⟨L, hL⟩ : ∃ L, L = (landAt p i).slabs := ⟨_, rfl⟩
    have he : freeF p (i : Int) = (0, setLand (freeSlabs p L) i ⟨false, (landAt p i).gen, [], 0⟩) := by unfold freeF; rw [hl, hL]; rfl
    rw [he]
    obtain ⟨_, l1, l2, _⟩ := hx.lcell hi
    have hlt : ∀ s ∈ L, s < p.bytes.length := by rw [hL]; exact (hp.ld i hi).lt
    have hLl : L.length ≤ 4096 := by rw [hL]; exact Nat.le_trans (hp.ld i hi).len hp.n2
    have hs1 := hp.s1
    have hs2 := hp.s2
    have hn2 := hp.n2
    have htk := hp.tk
    have HBL := Lib.hid hp.bl
    have hln := hp.ln
    have H0 := Lib.hid (show PX w S g (freeSlabs p (L.take 0)) ads cs adt ct A C bd from hx)
    rw [← hL] at l2
    have HL := Lib.hid hL
    clear hx hp he hl hL
    go_enter Tryz.func72, Tryz.ntmps72
    go_wp2_with (first
      | (go_at_call 112; refine HLA.out.mono ?_; rintro e w1 ⟨rfl, rfl⟩)
      | fail)
    clear l1 l2
    go_loopw [21] (fun v wr => ∃ k : Nat, k ≤ L.length ∧ v = .int .i64 (k : Int) ∧ PX wr S g (freeSlabs p (L.take k)) ads cs adt ct A C bd ∧ Chg S w wr) (fun v _ => L.length - (intOf v).toNat)
    case atStart => exact ⟨0, Nat.zero_le _, rfl, H0.out, Chg.refl _⟩
    case round =>
      obtain ⟨k, hk, rfl, hx, hc⟩ := hrel
      by_cases hkl : k < L.length
      · obtain ⟨s, hs⟩ : ∃ s, L[k]? = some s := ⟨_, List.getElem?_eq_getElem hkl⟩
        have hsb : s < p.bytes.length := hlt s (List.mem_of_getElem? hs)
        have hst : s < p.taken.length := by omega
        obtain ⟨hfb, hft⟩ := freeSlabs_len p (L.take k)
        have htake : L.take (k + 1) = L.take k ++ [s] := by rw [List.take_add_one, hs]; rfl
        have HT := Lib.hid (show freeSlabs p (L.take (k + 1)) = setTaken (setBytes (freeSlabs p (L.take k)) s (List.replicate p.size 0xDD)) s false by rw [htake, freeSlabs_snoc])
        have hbs : (bytesAt (freeSlabs p (L.take k)) s).length = p.size := by
          unfold bytesAt
          rw [List.getD_eq_getElem?_getD, List.getElem?_eq_getElem (by rw [hfb]; exact hsb)]
          exact bytesAt_foldl_len p.size _ (by simp) _ _ HBL.out _ (List.getElem_mem _)
        have hlo := hx.land i hi
        have hla : (landAt (freeSlabs p (L.take k)) i).slabs = L := HL.out.symm
        rw [hla] at hlo
        obtain ⟨ba, hba, _, za⟩ := hlo.at (iv_get L k s hs)
        obtain ⟨br, hbr, _, zr⟩ := hx.row.at (slabV_get (bd := bd) (size := p.size) (by rw [hfb]; exact hsb))
        obtain ⟨_, c1, _⟩ := hx.head
        rw [hfb, hbr] at c1
        have HX := Lib.hid hx
        have HC := Lib.hid hc
        have HFB := Lib.hid hfb
        have HFT := Lib.hid hft
        have HBS := Lib.hid hbs
        clear hx hc hlo hla hs htake hfb hft hbs
        have HSZ := Lib.hid (show (freeSlabs p (L.take k)).size = p.size from rfl)
        generalize freeSlabs p (L.take k) = P at *
        go_wp2
        obtain ⟨wA, hwA⟩ : ∃ wA, wA = wr := ⟨_, rfl⟩
        have HD := Lib.hid (show bytesAt P s = List.replicate 0 0xDD ++ (bytesAt P s).drop 0 by simp)
        subst hwA
        go_loopw [33] (fun v wr => ∃ j : Nat, j ≤ p.size ∧ v = .int .i64 (j : Int) ∧ PX wr S g (setBytes P s (List.replicate j 0xDD ++ (bytesAt P s).drop j)) ads cs adt ct A C bd ∧ Chg S w wr) (fun v _ => p.size - (intOf v).toNat)
        case atStart =>
          refine ⟨0, Nat.zero_le _, rfl, ?_, HC.out⟩
          have e : setBytes P s (List.replicate 0 0xDD ++ (bytesAt P s).drop 0) = P := by
            rw [← HD.out]
            have hb : P.bytes.set s (bytesAt P s) = P.bytes := by
              unfold bytesAt
              rw [List.getD_eq_getElem?_getD, List.getElem?_eq_getElem (by rw [HFB.out]; exact hsb)]
              simp
            unfold setBytes
            rw [hb]
          rw [e]
          exact HX.out
        case round =>
          obtain ⟨j, hj, rfl, hx2, hc2⟩ := hrel
          have hlb : (setBytes P s (List.replicate j 0xDD ++ (bytesAt P s).drop j)).bytes.length = p.bytes.length := by show (P.bytes.set s _).length = _; rw [List.length_set]; exact HFB.out
          obtain ⟨_, d1, d2⟩ := hx2.head
          have hrow2 := hx2.row
          rw [show (setBytes P s (List.replicate j 0xDD ++ (bytesAt P s).drop j)).size = p.size from HSZ.out, hlb] at hrow2
          obtain ⟨br2, hbr2, _, zr2⟩ := hrow2.at (slabV_get (bd := bd) (size := p.size) hsb)
          rw [hlb, hbr2] at d1
          by_cases hjl : j < p.size
          · have hpl : (List.replicate j 0xDD ++ (bytesAt P s).drop j).length = p.size := by
              have := HBS.out
              simp; omega
            have hbl := hx2.slab s (by rw [hlb]; exact hsb)
            rw [bytesAt_set _ _ _ _ (by rw [HFB.out]; exact hsb), if_pos rfl] at hbl
            obtain ⟨xv, hcell⟩ : ∃ xv : UInt8, wr.cell? ⟨bd s, j, none⟩ = some (.int .u8 (xv.toNat : Int)) := ⟨_, hbl.cell (bv_get _ j (by rw [hpl]; exact hjl))⟩
            have hfz := hbl.frozen j
            have HPS := Lib.hid (show PX (wr.setCell ⟨bd s, j, none⟩ (.int .u8 221)) S g (setBytes P s (List.replicate (j + 1) 0xDD ++ (bytesAt P s).drop (j + 1))) ads cs adt ct A C bd by
              have h1 := hbl.set_ j (.int .u8 221)
              have h2 := hx2.put_bytes (s := s) (by rw [hlb]; exact hsb) (List.replicate (j + 1) 0xDD ++ (bytesAt P s).drop (j + 1)) (w' := wr.setCell ⟨bd s, j, none⟩ (.int .u8 221)) (by
                rw [← poison_step 0xDD _ j (by rw [HBS.out]; exact hjl), ← bv_set]; exact h1) (grown_set _ _ _ _)
              rw [setBytes_twice] at h2
              exact h2)
            have HC2 := Lib.hid (Chg.trans hc2 (Chg.grown (grown_set wr (bd s) j (.int .u8 221)) (hx2.sslab s (by rw [hlb]; exact hsb))) (fun j hj => .inl hj))
            clear hx2 hc2 hlb hpl hbl d2 hrow2
            go_wp2
            go_roundw
            case rel => exact ⟨j + 1, hjl, by go_num, HPS.out, HC2.out⟩
            case measure => simp [intOf]; omega
          · obtain rfl : j = p.size := by omega
            have hbb : List.replicate p.size 0xDD ++ (bytesAt P s).drop p.size = List.replicate p.size 0xDD := by rw [List.drop_of_length_le (by rw [HBS.out]; exact Nat.le_refl _), List.append_nil]
            rw [hbb] at hx2
            have hlt2 : (setBytes P s (List.replicate p.size 0xDD)).taken.length = p.taken.length := HFT.out
            rw [show (setBytes P s (List.replicate p.size 0xDD ++ (bytesAt P s).drop p.size)).taken.length = p.taken.length from HFT.out] at d2
            obtain ⟨bt, hbt, _, zt⟩ := hx2.tak.at (taken_get _ s (by rw [hlt2]; exact hst))
            have hfz := hx2.tak.unfrozen hbt (show s < (setBytes P s (List.replicate p.size 0xDD)).taken.length * 1 by rw [hlt2]; omega)
            rw [hbt] at d2
            have HPT := Lib.hid (hx2.put_taken hbt (show s < (setBytes P s (List.replicate p.size 0xDD)).taken.length by rw [hlt2]; exact hst) false)
            have HC2 := Lib.hid (Chg.trans hc2 (Chg.grown (grown_set wr bt s (.bool false)) (hx2.stak _ hbt)) (fun j hj => .inl hj))
            clear hx2 hc2 hlb hbb hlt2 hrow2
            go_wp2
            go_roundw
            case rel => exact ⟨k + 1, hkl, by go_num, by rw [HT.out]; exact HPT.out, HC2.out⟩
            case measure => simp [intOf]; omega
      · obtain rfl : k = L.length := by omega
        rw [List.take_length] at hx
        obtain ⟨_, l1, l2, l3⟩ := hx.lcell hi
        have f0 := hx.blk.frozen (3 + i * 4)
        have f1 := hx.blk.frozen (3 + i * 4 + 1)
        have f2 := hx.blk.frozen (3 + i * 4 + 2)
        have f3 := hx.blk.frozen (3 + i * 4 + 3)
        have l1' : wr.cell? ⟨g, 3 + i * 4 + 1, none⟩ = some (.int .i64 ((landAt p i).gen : Int)) := l1
        have HPF := Lib.hid (hx.put4 (show (freeSlabs p L).lands.length = 256 from hln) hi false (landAt p i).gen)
        have HC := Lib.hid hc
        clear hx hc l1
        go_wp2
        go_ret
        exact ⟨rfl, HPF.out.after HC.out⟩
end Go.Proofs.YtpaogoehgkoaeaaGreatDoor
