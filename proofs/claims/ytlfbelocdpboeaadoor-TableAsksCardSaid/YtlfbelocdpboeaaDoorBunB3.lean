/- Layer 1 (region): Store and Free leave the pool in order; what is seen of it behind. -/
import Derived.Test.YtlfbelocdpboeaaDoorBunB2
import Derived.Test.YtlfbelocdpboeaaDoorBunB0
import Derived.Outline
import Derived.Test.YtlfbelocdpboeaaDoorRows
import Derived.Test.YtlfbelocdpboeaaDoorBunB1
import Derived.Lib.SliceRun
/- Layer 6 (bloom): the probes of a key, set and asked. -/
namespace Go.Proofs.YtlfbelocdpboeaaDoor
set_option linter.unusedVariables false
set_option linter.unusedSimpArgs false
open Go.RowKit Bloom
theorem and7 (n : Nat) (h : n < 4294967296) : bits .and .u32 (n : Int) 7 = ((n % 8 : Nat) : Int) := by
  have h1 := u32_and_nat n 7 h (by decide)
  have h2 : n &&& 7 = n % 8 := Nat.and_two_pow_sub_one_eq_mod n 3
  rw [h2] at h1
  exact h1
theorem or_pow (x : UInt8) (r : Nat) (h : r < 8) : bits .or .u8 (x.toNat : Int) (2 ^ r % 256) = ((UInt8.ofNat (x.toNat ||| 2 ^ r)).toNat : Int) := by
  have h2 : 2 ^ r < 256 := Nat.pow_lt_pow_right (by decide) (show r < 8 from h)
  have h1 := u8_or_nat x.toNat (2 ^ r) x.toNat_lt h2
  have h3 : x.toNat ||| 2 ^ r < 2 ^ 8 := Nat.or_lt_two_pow x.toNat_lt h2
  have e : (2 : Int) ^ r % 256 = ((2 ^ r : Nat) : Int) := by
    have : (2 : Int) ^ r = ((2 ^ r : Nat) : Int) := by simp
    rw [this]
    generalize 2 ^ r = y at h2 ⊢
    omega
  rw [UInt8.toNat_ofNat', Nat.mod_eq_of_lt h3, ← h1, e]
set_option maxRecDepth 100000 in
set_option maxHeartbeats 1000000 in
theorem set_any (g8 gb n cap base p : Nat) (on : Nat → Bool) (w : World) (hs : w.cell? ⟨g8, 0, none⟩ = some (.slice (some ⟨gb, 0, none⟩) n cap)) (ho : Owns w base 5 1 (some ⟨gb, 0, none⟩) cap n (bv (rowF on n))) (hp : p < 8 * n) (hn : n ≤ 500000000) :
    Calls Tryd.prog 50 #[.int .u32 (p : Int), .pointer (some ⟨g8, 0, none⟩)] w fun e w' => e = .returned (.bool true) ∧ Owns w' base 5 1 (some ⟨gb, 0, none⟩) cap n (bv (rowF (addB on p) n)) ∧ w.grownBy w' (some gb) := by
  have h7 := and7 p (by omega)
  have hq : p / 8 < n := by omega
  have hl : p / 8 < (rowF on n).length := by rw [rowF_len]; exact hq
  obtain ⟨_, e0, _, hc⟩ := ho.at (bv_get _ _ hl)
  cases e0
  rw [rowF_get] at hc
  have hf := ho.unfrozen (i := p / 8) rfl (by omega)
  have h8 : p % 8 < 8 := by omega
  have hy := or_pow (byteF on (p / 8)) (p % 8) h8
  have hr : (p : Int) % 8 < 8 := by omega
  have hr0 : 0 ≤ (p : Int) % 8 := by omega
  have hby : (UInt8.ofNat ((byteF on (p / 8)).toNat ||| 2 ^ (p % 8))).toNat = byteN on (p / 8) 8 ||| 2 ^ (p % 8) := by
    have h2 : 2 ^ (p % 8) < 256 := Nat.pow_lt_pow_right (by decide) (show p % 8 < 8 from h8)
    rw [UInt8.toNat_ofNat', Nat.mod_eq_of_lt (Nat.or_lt_two_pow (by exact (byteF on (p / 8)).toNat_lt) h2), byteF_nat]
  have ho2 := ho.store rfl hq (.int .u8 ((UInt8.ofNat ((byteF on (p / 8)).toNat ||| 2 ^ (p % 8))).toNat : Int))
  rw [bv_set, row_set on n p hq _ hby] at ho2
  have HY := Lib.hid hy
  clear hby hy
  go_enter Tryd.func50, Tryd.ntmps50
  go_wp2
  go_ret
  rw [HY.out]
  exact ⟨rfl, ho2, grown_set _ _ _ _⟩
theorem rot_any (h : BitVec 32) (w : World) : Calls Tryd.prog 71 #[.int .u32 (U h), .int .i64 (-17)] w fun e w' => e = .returned (.int .u32 (U (dF h))) ∧ w = w' := by
  have hU0 := U_lo h
  have hU1 := U_hi h
  have e1 : bits BinOp.and IntKind.u64 (IntKind.u64.wrap (-17)) 31 = 15 := by decide
  have e2 := U_shl h 32768 15 rfl
  have e3 := U_shr h 131072 17 rfl
  have e4 := U_or (h <<< 15) (h >>> 17)
  go_enter Tryd.func71, Tryd.ntmps71
  go_wp2
  go_ret
  exact ⟨rfl, rfl⟩
theorem set_at (X : Int) (g8 gb n cap base p : Nat) (on : Nat → Bool) (w : World) (hX : X = (p : Int)) (hs : w.cell? ⟨g8, 0, none⟩ = some (.slice (some ⟨gb, 0, none⟩) n cap)) (ho : Owns w base 5 1 (some ⟨gb, 0, none⟩) cap n (bv (rowF on n))) (hp : p < 8 * n) (hn : n ≤ 500000000) :
    Calls Tryd.prog 50 #[.int .u32 X, .pointer (some ⟨g8, 0, none⟩)] w fun e w' => e = .returned (.bool true) ∧ Owns w' base 5 1 (some ⟨gb, 0, none⟩) cap n (bv (rowF (addB on p) n)) ∧ w.grownBy w' (some gb) := by
  subst hX; exact set_any g8 gb n cap base p on w hs ho hp hn
theorem U_mod (a : BitVec 32) (m : Nat) : U a % (m : Int) = ((a.toNat % m : Nat) : Int) := by
  unfold U; simp
set_option maxRecDepth 100000 in
set_option maxHeartbeats 1000000 in
theorem eachB_any (key : List UInt8) (g8 gb n cap base k : Nat) (on : Nat → Bool) (w : World) (hm : key.length ≤ 9223372036854775807) (hs : w.cell? ⟨g8, 0, none⟩ = some (.slice (some ⟨gb, 0, none⟩) n cap)) (hne : g8 ≠ gb) (ho : Owns w base 5 1 (some ⟨gb, 0, none⟩) cap n (bv (rowF on n))) (hn0 : 0 < n) (hn : n ≤ 500000000) (hk : k ≤ 255) :
    Calls Tryd.prog 49 #[.string (str key), .int .i64 (8 * (n : Int)), .int .i64 (k : Int), .func (.func 50) #[] #[.pointer (some ⟨g8, 0, none⟩)]] w fun e w' => e = .returned (.bool true) ∧ Owns w' base 5 1 (some ⟨gb, 0, none⟩) cap n (bv (rowF (fun p => on p || probesF (hashF key) (8 * n) k p) n)) ∧ w.grownBy w' (some gb) := by
  have HH := Lib.hid (fun w => Hash_any key w hm)
  generalize hashF key = h at *
  have hU0 := U_lo h
  have hU1 := U_hi h
  go_enter Tryd.func49, Tryd.ntmps49
  have hsz : 8 * (n : Int) < 4294967296 := by omega
  go_wp2_with (first | (go_at_call 70; refine (HH.out _).mono ?_; rintro e w1 ⟨rfl, g1⟩) | (go_at_call 71; refine (rot_any h _).mono ?_; rintro e w' ⟨rfl, rfl⟩))
  go_loopw [9, 16] (fun v i wr => ∃ j : Nat, j ≤ k ∧ i = .int .i64 (j : Int) ∧ v = .int .u32 (U (atF h j)) ∧ Owns wr base 5 1 (some ⟨gb, 0, none⟩) cap n (bv (rowF (fun p => on p || probesF h (8 * n) j p) n)) ∧ w.grownBy wr (some gb)) (fun _ i _ => k - (intOf i).toNat)
  case atStart => exact ⟨0, Nat.zero_le _, rfl, by rw [atF_zero], by simp only [probesF_zero, Bool.or_false]; exact ho.gr g1, g1.far⟩
  case round =>
    obtain ⟨j, hj, rfl, rfl, ho2, hg⟩ := hrel
    by_cases hlt : j < k
    · have hs2 := hg.cell hs (fun e => hne (by injection e))
      have hu0 := U_lo (atF h j)
      have hu1 := U_hi (atF h j)
      have hA := U_add (atF h j) (dF h)
      have hv0 := U_lo (dF h)
      have hv1 := U_hi (dF h)
      have hp : bitAt h (8 * n) j < 8 * n := Nat.mod_lt _ (by omega)
      have hmod : U (atF h j) % (8 * (n : Int)) = (bitAt h (8 * n) j : Int) := by
        have := U_mod (atF h j) (8 * n)
        rw [show ((8 * n : Nat) : Int) = 8 * (n : Int) by omega] at this
        exact this
      have HM := Lib.hid hmod
      rw [← atF_succ] at hA
      have HA := Lib.hid hA
      clear hmod hA
      go_wp2_with (go_at_call 50; refine (set_at _ g8 gb n cap base _ _ _ HM.out hs2 ho2 hp hn).mono ?_; rintro e w3 ⟨rfl, ho3, hg3⟩)
      go_roundw
      case rel => exact ⟨j + 1, by omega, by go_num, by rw [HA.out], by
        have : (fun p => on p || probesF h (8 * n) (j + 1) p) = addB (fun p => on p || probesF h (8 * n) j p) (bitAt h (8 * n) j) := by
          funext p
          unfold addB
          rw [probesF_succ, Bool.or_assoc]
        rw [this]; exact ho3, grown_trans hg hg3⟩
      case measure => simp [intOf]; omega
    · obtain rfl : j = k := by omega
      go_wp2
      go_ret
      exact ⟨rfl, ho2, hg⟩
theorem and1 (x r : Nat) (h : x < 256) : bits .and .u8 ((x : Int) / 2 ^ r) 1 = ((x / 2 ^ r % 2 : Nat) : Int) := by
  have e : (x : Int) / 2 ^ r = ((x / 2 ^ r : Nat) : Int) := by simp
  have h0 : x / 2 ^ r < 256 := Nat.lt_of_le_of_lt (Nat.div_le_self _ _) h
  have h1 := u8_and_nat (x / 2 ^ r) 1 h0 (by decide)
  rw [Nat.and_one_is_mod] at h1
  rw [e]
  exact h1
theorem bit_at {l : List UInt8} {p : Nat} (h : p / 8 < l.length) : bitOf l p = decide ((l[p / 8]).toNat / 2 ^ (p % 8) % 2 = 1) := by
  unfold bitOf
  rw [List.getD_eq_getElem?_getD, List.getElem?_eq_getElem h, Option.getD_some, Nat.testBit_eq_decide_div_mod_eq]
set_option maxRecDepth 100000 in
set_option maxHeartbeats 1000000 in
theorem ask_any (X : Int) (g8 cap p : Nat) (ad : Option Addr) (l : List UInt8) (w : World) (hX : X = (p : Int)) (hs : w.cell? ⟨g8, 0, none⟩ = some (.slice ad l.length cap)) (hb : Bytes w ad l) (hp : p < 8 * l.length) (hn : l.length ≤ 500000000) :
    Calls Tryd.prog 66 #[.int .u32 X, .pointer (some ⟨g8, 0, none⟩)] w fun e w' => e = .returned (.bool (bitOf l p)) ∧ w = w' := by
  subst hX
  have h7 := and7 p (by omega)
  have hq : p / 8 < l.length := by omega
  obtain ⟨b, off, rfl, hc⟩ := hb _ hq
  have h8 : p % 8 < 8 := by omega
  have hx := byte_hi (l[p / 8])
  have ha := and1 (l[p / 8]).toNat (p % 8) (l[p / 8]).toNat_lt
  have hbt := bit_at hq
  have hr : (p : Int) % 8 < 8 := by omega
  have hr0 : 0 ≤ (p : Int) % 8 := by omega
  have HA := Lib.hid ha
  have HB := Lib.hid hbt
  clear ha hbt
  go_enter Tryd.func66, Tryd.ntmps66
  go_wp2
  go_ret
  rw [HA.out, HB.out]
  refine ⟨?_, rfl⟩
  show Ending.returned (.bool _) = _
  congr 2
  rw [Bool.eq_iff_iff, beq_iff_eq, decide_eq_true_iff]
  omega
set_option maxRecDepth 100000 in
set_option maxHeartbeats 1000000 in
theorem eachM_any (key : List UInt8) (g8 cap k : Nat) (ad : Option Addr) (l : List UInt8) (w : World) (hm : key.length ≤ 9223372036854775807) (hs : w.cell? ⟨g8, 0, none⟩ = some (.slice ad l.length cap)) (hb : Bytes w ad l) (hn0 : 0 < l.length) (hn : l.length ≤ 500000000) (hk : k ≤ 255) :
    Calls Tryd.prog 49 #[.string (str key), .int .i64 (8 * (l.length : Int)), .int .i64 (k : Int), .func (.func 66) #[] #[.pointer (some ⟨g8, 0, none⟩)]] w fun e w' => e = .returned (.bool (allF l (hashF key) (8 * l.length) k)) ∧ Gr w w' := by
  have HH := Lib.hid (fun w => Hash_any key w hm)
  generalize hashF key = h at *
  have hU0 := U_lo h
  have hU1 := U_hi h
  have HN := Lib.hid (show l.length = l.length from rfl)
  have hsz : 8 * (l.length : Int) < 4294967296 := by omega
  go_enter Tryd.func49, Tryd.ntmps49
  go_wp2_with (first | (go_at_call 70; refine (HH.out _).mono ?_; rintro e w1 ⟨rfl, g1⟩) | (go_at_call 71; refine (rot_any h _).mono ?_; rintro e w' ⟨rfl, rfl⟩))
  have hs1 := g1.cell hs
  have hb1 := hb.gr g1
  go_loop [9, 16] (fun v i => ∃ j : Nat, j ≤ k ∧ i = .int .i64 (j : Int) ∧ v = .int .u32 (U (atF h j)) ∧ ∀ j', j' < j → bitOf l (bitAt h (8 * l.length) j') = true) (fun _ i => k - (intOf i).toNat)
  case atStart => exact ⟨0, Nat.zero_le _, rfl, by rw [atF_zero], fun j' h => by omega⟩
  case round =>
    obtain ⟨j, hj, rfl, rfl, hall⟩ := hrel
    have HALL := Lib.hid hall; clear hall
    by_cases hlt : j < k
    · have hu0 := U_lo (atF h j)
      have hu1 := U_hi (atF h j)
      have hA := U_add (atF h j) (dF h)
      have hv0 := U_lo (dF h)
      have hv1 := U_hi (dF h)
      have hp : bitAt h (8 * l.length) j < 8 * l.length := Nat.mod_lt _ (by omega)
      have hmod : U (atF h j) % (8 * (l.length : Int)) = (bitAt h (8 * l.length) j : Int) := by
        have := U_mod (atF h j) (8 * l.length)
        rw [show ((8 * l.length : Nat) : Int) = 8 * (l.length : Int) by omega] at this
        exact this
      have HM := Lib.hid hmod
      rw [← atF_succ] at hA
      have HA := Lib.hid hA
      clear hmod hA
      have HC := Lib.hid (fun X hX => ask_any X g8 cap (bitAt h (8 * l.length) j) ad l w1 hX hs1 hb1 hp hn)
      cases hbit : bitOf l (bitAt h (8 * l.length) j) with
      | true =>
        rw [hbit] at HC
        have HB := Lib.hid hbit; clear hbit
        go_wp2_with (go_at_call 66; refine (HC.out _ HM.out).mono ?_; rintro e w3 ⟨rfl, rfl⟩)
        go_round
        case rel => exact ⟨j + 1, by omega, by go_num, by rw [HA.out], fun j' h' => by
          by_cases e : j' = j
          · rw [e]; exact HB.out
          · exact HALL.out j' (by omega)⟩
        case measure => simp [intOf]; omega
      | false =>
        rw [hbit] at HC
        have HR := Lib.hid (allF_no hlt hbit); clear hbit
        go_wp2_with (go_at_call 66; refine (HC.out _ HM.out).mono ?_; rintro e w3 ⟨rfl, rfl⟩)
        go_ret
        exact ⟨by rw [HR.out]; rfl, g1⟩
    · obtain rfl : j = k := by omega
      have HR := Lib.hid (allF_yes HALL.out)
      go_wp2
      go_ret
      exact ⟨by rw [HR.out]; rfl, g1⟩
end Go.Proofs.YtlfbelocdpboeaaDoor
/- Layer 6 (bloom): filters are built. -/
namespace Go.Proofs.YtlfbelocdpboeaaDoor
set_option linter.unusedVariables false
set_option linter.unusedSimpArgs false
open Go.RowKit Bloom
/-- keys, as Go's values -/
def sv (l : List (List UInt8)) : List Value := l.map fun s => .string (str s)
theorem sv_get (l : List (List UInt8)) (i : Nat) (h : i < l.length) : (sv l)[i]? = some (.string (str l[i])) := by simp [sv, h]
/-- no key is longer than any text -/
def Short (l : List (List UInt8)) : Prop := ∀ s ∈ l, s.length ≤ 9223372036854775807
theorem Short.at_ {l : List (List UInt8)} (h : Short l) (i : Nat) (hi : i < l.length) : l[i].length ≤ 9223372036854775807 := h _ (List.getElem_mem hi)
def kF (bits : Nat) : Nat := min (max (bits * 69 / 100) 1) 30
def nF (len bits : Nat) : Nat := (max (len * bits) 64 + 7) / 8
def filterF (keys : List (List UInt8)) (bits : Nat) : List UInt8 := rowF (onF keys (8 * nF keys.length bits) (kF bits)) (nF keys.length bits) ++ [UInt8.ofNat (kF bits)]
def buildF (keys : List (List UInt8)) (bits : Int) : List UInt8 × Nat :=
  if bits < 1 ∨ 64 < bits then ([], 1) else if 100000 < keys.length then ([], 14) else (filterF keys bits.toNat, 0)
theorem zero_row (n : Nat) : List.replicate n (0 : UInt8) = rowF (fun _ => false) n := by
  apply List.ext_getElem
  · simp [rowF_len]
  · intro i h1 h2
    rw [rowF_get, List.getElem_replicate]
    apply UInt8.toNat_inj.1
    rw [byteF_nat]
    have : byteN (fun _ => false) i 8 = byteN (fun _ => false) i 0 := byteN_cut (Nat.zero_le _) (fun _ _ _ => rfl)
    rw [this]; rfl
set_option maxRecDepth 100000 in
set_option maxHeartbeats 1000000 in
theorem bBuild_any (ad : Option Addr) (cap : Nat) (keys : List (List UInt8)) (bits : Int) (w : World) (hm : keys.length ≤ 9223372036854775807) (hr : Row w ad (sv keys)) (hsh : Short keys) (h1 : -9223372036854775808 ≤ bits) (h2 : bits ≤ 9223372036854775807) :
    Calls Tryd.prog 25 #[.slice ad keys.length cap, .int .i64 bits] w (RetBE 5 w (buildF keys bits).1 (buildF keys bits).2) := by
  by_cases hb : bits < 1 ∨ 64 < bits
  · have H := Lib.hid (show buildF keys bits = ([], 1) by unfold buildF; rw [if_pos hb])
    rcases hb with hb | hb
    all_goals
      go_enter Tryd.func25, Tryd.ntmps25
      go_wp2
      go_ret2
      refine ⟨none, 0, ?_, ?_, Gr.refl _⟩
      · rw [H.out]; rfl
      · rw [H.out]; exact Owns.empty _ _ _ _
  · obtain ⟨b, rfl⟩ := Int.eq_ofNat_of_zero_le (show 0 ≤ bits by omega)
    have hb1 : 1 ≤ b := by omega
    have hb2 : b ≤ 64 := by omega
    clear h1 h2
    by_cases hk : 100000 < keys.length
    · have H := Lib.hid (show buildF keys b = ([], 14) by unfold buildF; rw [if_neg hb, if_pos hk])
      clear hb
      go_enter Tryd.func25, Tryd.ntmps25
      go_wp2
      go_ret2
      refine ⟨none, 0, ?_, ?_, Gr.refl _⟩
      · rw [H.out]; rfl
      · rw [H.out]; exact Owns.empty _ _ _ _
    · have H := Lib.hid (show buildF keys b = (filterF keys b, 0) by unfold buildF; rw [if_neg hb, if_neg hk]; rfl)
      clear hb
      have hlen : keys.length ≤ 100000 := by omega
      have hprod : keys.length * b ≤ 100000 * 64 := Nat.mul_le_mul hlen hb2
      have hp0 : 0 ≤ (keys.length : Int) * (b : Int) := by have := Int.natCast_nonneg (keys.length * b); rw [Int.natCast_mul] at this; exact this
      have hp1 : (keys.length : Int) * (b : Int) ≤ 6400000 := by have h3 : ((keys.length * b : Nat) : Int) ≤ 6400000 := (by omega); rw [Int.natCast_mul] at h3; exact h3
      have hN : ((nF keys.length b : Nat) : Int) = (max ((keys.length : Int) * (b : Int)) 64 + 7) / 8 := by
        unfold nF
        have h3 : ((keys.length * b : Nat) : Int) = (keys.length : Int) * (b : Int) := Int.natCast_mul _ _
        omega
      have hn8 : 8 ≤ nF keys.length b := by unfold nF; omega
      have hn9 : nF keys.length b ≤ 800001 := by unfold nF; omega
      have hK : ((kF b : Nat) : Int) = min (max ((b : Int) * 69 / 100) 1) 30 := by unfold kF; omega
      have hk1 : 1 ≤ kF b := by unfold kF; omega
      have hk2 : kF b ≤ 30 := by unfold kF; omega
      have HF := Lib.hid (show filterF keys b = rowF (onF keys (8 * nF keys.length b) (kF b)) (nF keys.length b) ++ [UInt8.ofNat (kF b)] from rfl)
      generalize nF keys.length b = n at *
      generalize kF b = k at *
      have HN := Lib.hid hN; have HK := Lib.hid hK; clear hN hK
      have hm1 : n + 1 ≤ maxLen := by unfold maxLen; omega
      have hm2 : 1 * (n + 1) ≤ 281474976710656 := by omega
      go_enter Tryd.func25, Tryd.ntmps25
      go_wp2_with (at_make; go_must (refine wp_make elemB rfl rfl _ _ rfl n (n + 1) rfl rfl (by have := HN.out; omega) (by have := HN.out; omega) (Nat.le_succ n) hm1 hm2 ?_); intro w1 o1 g1 z1)
      rw [← HN.out, ← HK.out]
      have hbase := g1.size
      have o2 : Owns (w1.alloc (.cells #[.slice (some ⟨w.heap.size, 0, none⟩) n (n + 1)] 26)) w.heap.size 5 1 (some ⟨w.heap.size, 0, none⟩) (n + 1) n (bv (rowF (onF (keys.take 0) (8 * n) k) n)) := by
        have h3 := o1.gr (Gr.alloc w1 (.cells #[.slice (some ⟨w.heap.size, 0, none⟩) n (n + 1)] 26))
        rw [bv_replicate, zero_row] at h3
        exact h3
      have c2 : (w1.alloc (.cells #[.slice (some ⟨w.heap.size, 0, none⟩) n (n + 1)] 26)).cell? ⟨w.heap.size + 1, 0, none⟩ = some (.slice (some ⟨w.heap.size, 0, none⟩) n (n + 1)) := by
        have := (Blk.new w1 26 #[.slice (some ⟨w.heap.size, 0, none⟩) n (n + 1)]).cell (i := 0) rfl
        rw [z1] at this
        exact this
      have G2 := g1.trans (Gr.alloc w1 (.cells #[.slice (some ⟨w.heap.size, 0, none⟩) n (n + 1)] 26))
      clear o1 g1 z1 hbase
      have hne : w.heap.size + 1 ≠ w.heap.size := by omega
      have hn0 : 0 < n := by omega
      have hn5 : n ≤ 500000000 := by omega
      have hk5 : k ≤ 255 := by omega
      go_loopw [10, 40] (fun _ i wr => ∃ j : Nat, j ≤ keys.length ∧ i = .int .i64 (j : Int) ∧ Owns wr w.heap.size 5 1 (some ⟨w.heap.size, 0, none⟩) (n + 1) n (bv (rowF (onF (keys.take j) (8 * n) k) n)) ∧ wr.cell? ⟨w.heap.size + 1, 0, none⟩ = some (.slice (some ⟨w.heap.size, 0, none⟩) n (n + 1)) ∧ Gr w wr) (fun _ i _ => keys.length - (intOf i).toNat)
      case atStart => exact ⟨0, Nat.zero_le _, rfl, o2, c2, G2⟩
      case round =>
        obtain ⟨j, hj, rfl, ho, hc, hg⟩ := hrel
        by_cases hlt : j < keys.length
        · obtain ⟨bb, off, rfl, hcell⟩ := (hr.gr hg) j _ (sv_get keys j hlt)
          have HE := Lib.hid (fun w' hs ho => eachB_any keys[j] (w.heap.size + 1) w.heap.size n (n + 1) w.heap.size k (onF (keys.take j) (8 * n) k) w' (hsh.at_ j hlt) hs hne ho hn0 hn5 hk5)
          go_wp2_with (go_at_call 49; refine (HE.out _ hc ho).mono ?_; rintro e w3 ⟨rfl, ho3, hg3⟩)
          go_roundw
          case rel =>
            refine ⟨j + 1, by omega, by go_num, ?_, hg3.cell hc (fun e => hne (by injection e)), hg.of_far hg3 (Nat.le_refl _)⟩
            have : (fun p => onF (keys.take j) (8 * n) k p || probesF (hashF keys[j]) (8 * n) k p) = onF (keys.take (j + 1)) (8 * n) k := by
              funext p
              rw [onF_take keys j hlt]
            rw [← this]; exact ho3
          case measure => simp [intOf]; omega
        · obtain rfl : j = keys.length := by omega
          rw [List.take_length] at ho
          have HX := Lib.hid (show (k : Int) % 256 = ((UInt8.ofNat k).toNat : Int) by rw [UInt8.toNat_ofNat']; omega)
          have HX2 := Lib.hid (show (k : Int) = ((UInt8.ofNat k).toNat : Int) by rw [UInt8.toNat_ofNat']; omega)
          have hbs : w.heap.size ≤ (wr.alloc (.cells #[.int .u8 (k : Int)] 5)).heap.size := by have := hg.size; simp; omega
          have hm3 : (n + 1) * 1 ≤ 140737488355328 := by omega
          go_wp2_with (at_builtin; go_must (refine wp_append elemB rfl _ _ rfl rfl (ho.gr (Gr.alloc _ _)) rfl (Src.one _ _ (UInt8.ofNat k) HX2.out Tryd.underlying26) hm1 hm3 hbs ?_); intro ad2 cap2 w4 o4 k4 f4)
          go_ret2
          have hlf : (filterF keys b).length = n + 1 := by rw [HF.out]; simp [rowF_len]
          refine ⟨ad2, cap2, ?_, ?_, hg.app ho (Nat.le_refl _) k4⟩
          · rw [H.out]; simp only [hlf]; rfl
          · rw [H.out]; simp only [hlf]; rw [HF.out, bv_append]; exact o4
end Go.Proofs.YtlfbelocdpboeaaDoor
/- Layer 6 (bloom): filters are asked. -/
namespace Go.Proofs.YtlfbelocdpboeaaDoor
set_option linter.unusedVariables false
set_option linter.unusedSimpArgs false
open Go.RowKit Bloom
/-- has it a form? -/
def rightF (l : List UInt8) : Bool := decide (2 ≤ l.length) && decide (1 ≤ (l.getD (l.length - 1) 0).toNat) && decide ((l.getD (l.length - 1) 0).toNat ≤ 30)
theorem right_of {l : List UInt8} (h : rightF l = true) : ∃ m x, l = m ++ [x] ∧ 1 ≤ m.length ∧ 1 ≤ x.toNat ∧ x.toNat ≤ 30 := by
  simp only [rightF, Bool.and_eq_true, decide_eq_true_eq] at h
  obtain ⟨⟨h1, h2⟩, h3⟩ := h
  have hne : l ≠ [] := by rintro rfl; simp at h1
  have e : l.getD (l.length - 1) 0 = l.getLast hne := by
    rw [List.getD_eq_getElem?_getD, List.getElem?_eq_getElem (by omega), Option.getD_some, List.getLast_eq_getElem]
  rw [e] at h2 h3
  exact ⟨l.dropLast, l.getLast hne, (List.dropLast_concat_getLast hne).symm, by simp; omega, h2, h3⟩
theorem right_mk {m : List UInt8} {x : UInt8} (h1 : 1 ≤ m.length) (h2 : 1 ≤ x.toNat) (h3 : x.toNat ≤ 30) : rightF (m ++ [x]) = true := by
  simp [rightF]
  omega
theorem last_get (m : List UInt8) (x : UInt8) : (m ++ [x])[m.length]'(by simp) = x := by simp
set_option maxRecDepth 100000 in
set_option maxHeartbeats 1000000 in
theorem split_yes (m : List UInt8) (x : UInt8) (ad : Option Addr) (cap : Nat) (w : World) (hm : m.length + 1 ≤ cap) (hcm : cap ≤ maxLen) (h1 : 1 ≤ m.length) (h2 : 1 ≤ x.toNat) (h3 : x.toNat ≤ 30) (hb : Bytes w ad (m ++ [x])) :
    Calls Tryd.prog 65 #[.slice ad (m.length + 1) cap] w fun e w' => e = .returned (.tuple #[.slice ad m.length cap, .int .i64 (x.toNat : Int), .bool true]) ∧ Gr w w' := by
  unfold maxLen at hcm
  obtain ⟨b, off, rfl, hc⟩ := hb m.length (by simp)
  rw [last_get] at hc
  have hx2 : (1 : Int) ≤ (x.toNat : Int) := by omega
  have hx3 : (x.toNat : Int) ≤ 30 := by omega
  have hml : m.length < m.length + 1 := by omega
  go_enter Tryd.func65, Tryd.ntmps65
  go_wp2
  go_quiet (fail)
  go_wp2
  exact bodyPost_ret (v := .tuple #[.slice (some ⟨b, off, none⟩) m.length cap, .int .i64 (x.toNat : Int), .bool true]) (by simp [results, Tryd.results65, go_sem]) rfl ⟨rfl, Gr.drewN _ _⟩
set_option maxRecDepth 100000 in
set_option maxHeartbeats 1000000 in
theorem split_no (l : List UInt8) (ad : Option Addr) (cap : Nat) (w : World) (hm : l.length ≤ maxLen) (h : rightF l = false) (hb : Bytes w ad l) :
    Calls Tryd.prog 65 #[.slice ad l.length cap] w fun e w' => e = .returned (.tuple #[.slice none 0 0, .int .i64 0, .bool false]) ∧ Gr w w' := by
  unfold maxLen at hm
  by_cases h2 : 2 ≤ l.length
  · obtain ⟨k, hk⟩ : ∃ k, l.length = k + 1 := ⟨l.length - 1, by omega⟩
    have hkl : k < l.length := by omega
    obtain ⟨b, off, rfl, hc⟩ := hb k hkl
    have hd : l.getD (l.length - 1) 0 = l[k] := by
      rw [hk, List.getD_eq_getElem?_getD, Nat.add_sub_cancel, List.getElem?_eq_getElem hkl, Option.getD_some]
    have hbad : ¬ (1 ≤ l[k].toNat ∧ l[k].toNat ≤ 30) := by
      intro ⟨h3, h4⟩
      have : rightF l = true := by
        simp only [rightF, Bool.and_eq_true, decide_eq_true_eq]
        rw [hd]
        exact ⟨⟨h2, h3⟩, h4⟩
      rw [this] at h; cases h
    have HK := Lib.hid hk
    clear hd h
    generalize l[k] = x at *
    rw [hk]
    have hk1 : 1 ≤ k := by omega
    have hk2 : k + 1 ≤ 9223372036854775807 := by omega
    clear hk hkl hm h2
    have hx := byte_hi x
    by_cases hx1 : 1 ≤ x.toNat
    · have hx2 : (1 : Int) ≤ (x.toNat : Int) := by omega
      have hx3 : (30 : Int) < (x.toNat : Int) := by omega
      clear hbad
      go_enter Tryd.func65, Tryd.ntmps65
      go_wp2
      go_ret3
      exact ⟨rfl, Gr.refl _⟩
    · have hx2 : (x.toNat : Int) < 1 := by omega
      clear hbad
      go_enter Tryd.func65, Tryd.ntmps65
      go_wp2
      go_ret3
      exact ⟨rfl, Gr.refl _⟩
  · go_enter Tryd.func65, Tryd.ntmps65
    go_wp2
    go_ret3
    exact ⟨rfl, Gr.refl _⟩
/-- may it be there? -/
def mayF (l : List UInt8) (h : BitVec 32) : Bool := !rightF l || allF (l.take (l.length - 1)) h (8 * (l.length - 1)) (l.getD (l.length - 1) 0).toNat
theorem may_yes (m : List UInt8) (x : UInt8) (h : BitVec 32) (h1 : 1 ≤ m.length) (h2 : 1 ≤ x.toNat) (h3 : x.toNat ≤ 30) : mayF (m ++ [x]) h = allF m h (8 * m.length) x.toNat := by
  unfold mayF
  rw [right_mk h1 h2 h3]
  simp
theorem may_no {l : List UInt8} (h : BitVec 32) (hr : rightF l = false) : mayF l h = true := by unfold mayF; rw [hr]; rfl
set_option maxRecDepth 100000 in
set_option maxHeartbeats 1000000 in
theorem May_any (l key : List UInt8) (ad : Option Addr) (cap : Nat) (w : World) (hlc : l.length ≤ cap) (hcm : cap ≤ maxLen) (hl : l.length ≤ 500000000) (hb : Bytes w ad l) (hk : key.length ≤ 9223372036854775807) :
    Calls Tryd.prog 40 #[.slice ad l.length cap, .string (str key)] w fun e w' => e = .returned (.bool (mayF l (hashF key))) ∧ Gr w w' := by
  cases hr : rightF l with
  | true =>
    obtain ⟨m, x, rfl, h1, h2, h3⟩ := right_of hr
    rw [may_yes m x _ h1 h2 h3]
    simp only [List.length_append, List.length_cons, List.length_nil, Nat.zero_add] at hlc hl ⊢
    have HS := Lib.hid (split_yes m x ad cap w hlc hcm h1 h2 h3 hb)
    have hbm : Bytes w ad m := by have := hb.take m.length; simpa using this
    have hx : x.toNat ≤ 255 := by omega
    have hml : m.length ≤ 500000000 := by omega
    go_enter Tryd.func40, Tryd.ntmps40
    go_wp2_with (first
      | (go_at_call 65; refine HS.out.mono ?_; rintro e w1 ⟨rfl, g1⟩; have HE := Lib.hid (eachM_any key w1.heap.size cap x.toNat ad m (w1.alloc (.cells #[.slice ad m.length cap] 26)) hk ((Blk.new w1 26 #[.slice ad m.length cap]).cell rfl) ((hbm.gr g1).gr (Gr.alloc _ _)) h1 hml hx))
      | (go_at_call 49; refine HE.out.mono ?_; rintro e w2 ⟨rfl, g2⟩))
    go_ret
    exact ⟨rfl, (g1.trans (Gr.alloc _ _)).trans g2⟩
  | false =>
    rw [may_no _ hr]
    have HS := Lib.hid (split_no l ad cap w (Nat.le_trans hlc hcm) hr hb)
    go_enter Tryd.func40, Tryd.ntmps40
    go_wp2_with (go_at_call 65; refine HS.out.mono ?_; rintro e w1 ⟨rfl, g1⟩)
    go_ret
    exact ⟨rfl, g1.trans (Gr.alloc _ _)⟩
end Go.Proofs.YtlfbelocdpboeaaDoor
/- Layer 6 (bloom): filters are merged; does a filter do what it should? -/
namespace Go.Proofs.YtlfbelocdpboeaaDoor
set_option linter.unusedVariables false
set_option linter.unusedSimpArgs false
open Go.RowKit Bloom
def orF (a b : List UInt8) : List UInt8 := List.zipWith (· ||| ·) a b
theorem orF_len (a b : List UInt8) (h : a.length = b.length) : (orF a b).length = a.length := by simp [orF, h]
theorem orF_take (a b : List UInt8) (i : Nat) (h1 : i < a.length) (h2 : i < b.length) : orF (a.take (i + 1)) (b.take (i + 1)) = orF (a.take i) (b.take i) ++ [a[i] ||| b[i]] := by
  unfold orF
  rw [List.take_succ_eq_append_getElem h1, List.take_succ_eq_append_getElem h2, List.zipWith_append (by simp; omega)]
  rfl
def mergeF (a b : List UInt8) : List UInt8 × Nat :=
  if rightF a = false ∨ rightF b = false then ([], 2)
  else if a.length ≠ b.length ∨ a.getD (a.length - 1) 0 ≠ b.getD (b.length - 1) 0 then ([], 1)
  else (orF (a.take (a.length - 1)) (b.take (b.length - 1)) ++ [a.getD (a.length - 1) 0], 0)
theorem merge_good (m m' : List UInt8) (x : UInt8) (hlen : m'.length = m.length) (h1 : 1 ≤ m.length) (h2 : 1 ≤ x.toNat) (h3 : x.toNat ≤ 30) : mergeF (m ++ [x]) (m' ++ [x]) = (orF m m' ++ [x], 0) := by
  unfold mergeF
  rw [right_mk h1 h2 h3, right_mk (by omega) h2 h3, if_neg (by simp), if_neg (by simp [hlen])]
  simp
theorem merge_apart (m m' : List UInt8) (x y : UInt8) (h : m.length ≠ m'.length ∨ x ≠ y) (h1 : 1 ≤ m.length) (h1' : 1 ≤ m'.length) (h2 : 1 ≤ x.toNat) (h3 : x.toNat ≤ 30) (h2' : 1 ≤ y.toNat) (h3' : y.toNat ≤ 30) : mergeF (m ++ [x]) (m' ++ [y]) = ([], 1) := by
  unfold mergeF
  rw [right_mk h1 h2 h3, right_mk h1' h2' h3', if_neg (by simp), if_pos (by simpa using h)]
theorem merge_form {a b : List UInt8} (h : rightF a = false ∨ rightF b = false) : mergeF a b = ([], 2) := by
  unfold mergeF
  rw [if_pos h]
theorem split_any (l : List UInt8) (ad : Option Addr) (cap : Nat) (w : World) (hlc : l.length ≤ cap) (hcm : cap ≤ maxLen) (hb : Bytes w ad l) :
    ∃ s x, ∀ w1, Gr w w1 → Calls Tryd.prog 65 #[.slice ad l.length cap] w1 fun e w' => e = .returned (.tuple #[s, .int .i64 x, .bool (rightF l)]) ∧ Gr w1 w' := by
  cases hr : rightF l with
  | true =>
    obtain ⟨m, x, rfl, h1, h2, h3⟩ := right_of hr
    simp only [List.length_append, List.length_cons, List.length_nil, Nat.zero_add] at hlc ⊢
    exact ⟨_, _, fun w1 g => split_yes m x ad cap w1 hlc hcm h1 h2 h3 (hb.gr g)⟩
  | false => exact ⟨_, _, fun w1 g => split_no l ad cap w1 (Nat.le_trans hlc hcm) hr (hb.gr g)⟩
end Go.Proofs.YtlfbelocdpboeaaDoor
/- Layer 6 (bloom): the reference's probes and questions. -/
namespace Go.Proofs.YtlfbelocdpboeaaDoor
set_option linter.unusedVariables false
set_option linter.unusedSimpArgs false
open Go.RowKit Bloom
set_option maxRecDepth 100000 in
set_option maxHeartbeats 1000000 in
theorem bRight_any (l : List UInt8) (w : World) (hm : l.length ≤ 9223372036854775807) :
    Calls Tryd.prog 44 #[.string (str l)] w fun e w' => e = .returned (.bool (rightF l)) ∧ w = w' := by
  by_cases h2 : 2 ≤ l.length
  · obtain ⟨k, hk⟩ : ∃ k, l.length = k + 1 := ⟨l.length - 1, by omega⟩
    have hkl : k < l.length := by omega
    have hd : l.getD (l.length - 1) 0 = l[k] := by
      rw [hk, List.getD_eq_getElem?_getD, Nat.add_sub_cancel, List.getElem?_eq_getElem hkl, Option.getD_some]
    have hR : rightF l = (decide (1 ≤ l[k].toNat) && decide (l[k].toNat ≤ 30)) := by
      unfold rightF
      rw [hd]; simp [h2]
    have HR := Lib.hid hR
    have hx := byte_hi l[k]
    have hks : k < (str l).size := by rw [str_size]; exact hkl
    have hi : ((l.length : Int) - 1).toNat = k := by omega
    have hi0 : 0 ≤ (l.length : Int) - 1 := by omega
    have HI := Lib.hid hi
    clear hd hR
    have h2' : (2 : Int) ≤ (l.length : Int) := by omega
    have e1 : (l.length : Int) - 1 = (k : Int) := by omega
    have E1 := Lib.hid e1
    clear e1 hk hi
    by_cases h3 : 1 ≤ l[k].toNat
    · by_cases h4 : l[k].toNat ≤ 30
      all_goals
        have h3' : (1 : Int) ≤ (l[k].toNat : Int) := by omega
        have e1 := E1.out
        go_enter Tryd.func44, Tryd.ntmps44
        go_wp2
        go_ret
        exact ⟨by rw [HR.out]; show Ending.returned (.bool _) = _; congr 2; rw [Bool.eq_iff_iff]; simp; omega, rfl⟩
    · have h3' : (l[k].toNat : Int) < 1 := by omega
      have e1 := E1.out
      go_enter Tryd.func44, Tryd.ntmps44
      go_wp2
      go_ret
      exact ⟨by rw [HR.out]; show Ending.returned (.bool _) = _; congr 2; rw [Bool.eq_iff_iff]; simp; omega, rfl⟩
  · have HR := Lib.hid (show rightF l = false by unfold rightF; simp [h2])
    go_enter Tryd.func44, Tryd.ntmps44
    go_wp2
    go_ret
    exact ⟨by rw [HR.out]; rfl, rfl⟩
theorem elemI : Elem Tryd.prog 89 3 (.int .i64 0) 1 8 := ⟨by kernel_rfl, by kernel_rfl, rfl, by decide⟩
/-- numbers, as Go's values -/
def nv (l : List Nat) : List Value := l.map fun (n : Nat) => Value.int .i64 (n : Int)
theorem nv_get (l : List Nat) (i : Nat) (h : i < l.length) : (nv l)[i]? = some (.int .i64 (l[i] : Int)) := by simp [nv, h]
theorem nv_append (l m : List Nat) : nv (l ++ m) = nv l ++ nv m := by simp [nv]
def probesL (h : BitVec 32) (b k : Nat) : List Nat := (List.range k).map (bitAt h b)
theorem probesL_len (h : BitVec 32) (b k : Nat) : (probesL h b k).length = k := by simp [probesL]
theorem probesL_succ (h : BitVec 32) (b k : Nat) : probesL h b (k + 1) = probesL h b k ++ [bitAt h b k] := by simp [probesL, List.range_succ]
theorem probesL_get (h : BitVec 32) (b k i : Nat) (hi : i < (probesL h b k).length) : (probesL h b k)[i] = bitAt h b i := by simp [probesL]
theorem dF_nat (h : BitVec 32) : (dF h).toNat = h.toNat / 131072 + h.toNat % 131072 * 32768 := by
  unfold dF
  rw [BitVec.toNat_or, BitVec.toNat_shiftLeft, BitVec.toNat_ushiftRight, Nat.shiftRight_eq_div_pow, Nat.shiftLeft_eq]
  have hlt := h.isLt
  have e : h.toNat * 2 ^ 15 % 2 ^ 32 = (h.toNat % 131072) * 2 ^ 15 := by omega
  rw [e]
  have h1 : h.toNat / 2 ^ 17 < 2 ^ 15 := by omega
  rw [nat_join 15 _ _ (Nat.mul_mod_left _ _) h1]
  omega
theorem dU (h : BitVec 32) : U h / 131072 + U h % 131072 * 32768 = U (dF h) := by
  unfold U
  rw [dF_nat]
  omega
theorem atU (h : BitVec 32) (i b : Nat) (hi : i < 4294967296) : (U h + (i : Int) * U (dF h) % 4294967296) % 4294967296 % (b : Int) = (bitAt h b i : Int) := by
  rw [U_lit (m := (i : Int)) i rfl hi, U_mul, U_add, U_mod]
  rfl
set_option maxRecDepth 100000 in
set_option maxHeartbeats 1000000 in
theorem rProbes_any (key : List UInt8) (b k : Nat) (w : World) (hm : key.length ≤ 9223372036854775807) (hb0 : 0 < b) (hb : b < 4294967296) (hk : k ≤ 255) :
    Calls Tryd.prog 41 #[.string (str key), .int .i64 (b : Int), .int .i64 (k : Int)] w fun e w' => ∃ ad cap, e = .returned (.slice ad k cap) ∧ Owns w' w.heap.size 3 1 ad cap k (nv (probesL (hashF key) b k)) ∧ Gr w w' := by
  have HH := Lib.hid (fun w => rHash_any key w hm)
  generalize hashF key = h at *
  have hU0 := U_lo h
  have hU1 := U_hi h
  have hd := dU h
  have hd0 := U_lo (dF h)
  have hd1 := U_hi (dF h)
  go_enter Tryd.func41, Tryd.ntmps41
  go_wp2_with (go_at_call 67; refine (HH.out _).mono ?_; rintro e w1 ⟨rfl, g1⟩)
  clear hd
  go_loopw [9, 10] (fun v i wr => ∃ (j : Nat) (ad : Option Addr) (cap : Nat), j ≤ k ∧ i = .int .i64 (j : Int) ∧ v = .slice ad j cap ∧ Owns wr w.heap.size 3 1 ad cap j (nv (probesL h b j)) ∧ Gr w wr) (fun _ i _ => k - (intOf i).toNat)
  case atStart => exact ⟨0, none, 0, Nat.zero_le _, rfl, rfl, Owns.empty _ _ _ _, g1⟩
  case round =>
    obtain ⟨j, ad, cap, hj, rfl, rfl, ho, hg⟩ := hrel
    by_cases hlt : j < k
    · have HX := Lib.hid (show wrap64 ((U h + (j : Int) * U (dF h)) % 4294967296 % (b : Int)) = (bitAt h b j : Int) by
        have h1 := atU h j b (by omega)
        have h2 : (U h + (j : Int) * U (dF h) % 4294967296) % 4294967296 = (U h + (j : Int) * U (dF h)) % 4294967296 := by omega
        rw [h2] at h1
        have h3 : bitAt h b j < b := Nat.mod_lt _ hb0
        rw [h1, IntWalk.wrap64_in _ ⟨by omega, by omega⟩])
      have hm1 : j + 1 ≤ maxLen := by unfold maxLen; omega
      have hm2 : (j + 1) * 8 ≤ 140737488355328 := by omega
      have hbs := hg.size
      have hjb : (j : Int) < 4294967296 := by omega
      have hbt : ((bitAt h b j : Nat) : Int) < 4294967296 := by have := Nat.mod_lt (atF h j).toNat hb0; unfold bitAt; omega
      have hb1 : (b : Int) < 4294967296 := by omega
      have hb2 : 0 < (b : Int) := by omega
      go_wp2_with (at_builtin; go_must (refine wp_append elemI rfl _ _ rfl rfl (ho.gr (Gr.alloc _ _)) rfl (src_cell _ _ rfl Tryd.underlying89) hm1 hm2 (by simp; omega) ?_); intro ad2 cap2 w4 o4 k4 f4)
      rw [HX.out] at o4
      go_roundw
      case rel => exact ⟨j + 1, ad2, cap2, by omega, by go_num, rfl, by rw [probesL_succ, nv_append]; exact o4, hg.app ho (Nat.le_refl _) k4⟩
      case measure => simp [intOf]; omega
    · obtain rfl : j = k := by omega
      go_wp2
      go_ret
      exact ⟨ad, cap, rfl, ho, hg⟩
theorem Owns.get {w : World} {base : Nat} {e : TypeId} {ad : Option Addr} {cap n : Nat} {xs : List Value} (h : Owns w base e 1 ad cap n xs) : xs.length = n := by
  have := h.1; omega
set_option maxRecDepth 100000 in
set_option maxHeartbeats 1000000 in
theorem rDocMay_any (l key : List UInt8) (w : World) (hl : l.length ≤ 500000000) (hk : key.length ≤ 9223372036854775807) :
    Calls Tryd.prog 23 #[.string (str l), .string (str key)] w fun e w' => e = .returned (.bool (mayF l (hashF key))) ∧ Gr w w' := by
  have HR := Lib.hid (fun w => bRight_any l w (by omega))
  cases hr : rightF l with
  | false =>
    rw [may_no _ hr]
    rw [hr] at HR
    go_enter Tryd.func23, Tryd.ntmps23
    go_wp2_with (go_at_call 44; refine (HR.out _).mono ?_; rintro e w1 ⟨rfl, rfl⟩)
    go_ret
    exact ⟨rfl, Gr.refl _⟩
  | true =>
    obtain ⟨m, x, rfl, h1, h2, h3⟩ := right_of hr
    rw [may_yes m x _ h1 h2 h3]
    rw [hr] at HR
    have HPr := Lib.hid (fun w => rProbes_any key (8 * m.length) x.toNat w hk (by omega) (by simp at hl; omega) (by omega))
    generalize hashF key = h at *
    have hlen : (m ++ [x]).length = m.length + 1 := by simp
    have hlast : ∀ (h2 : m.length < (m ++ [x]).length), (m ++ [x])[m.length]'h2 = x := fun h2 => by simp
    have hin : ∀ i (h : i < m.length) (h2 : i < (m ++ [x]).length), (m ++ [x])[i]'h2 = m[i] := fun i h h2 => List.getElem_append_left h
    have hml : m.length ≤ 500000000 := by omega
    clear hr
    generalize m ++ [x] = l at *
    have HIN := Lib.hid hin; clear hin
    have hlt : m.length < l.length := by omega
    have hlast := hlast hlt
    have hx := byte_hi x
    have E8 := Lib.hid (show 8 * (m.length : Int) = ((8 * m.length : Nat) : Int) by omega)
    have HLEN := Lib.hid hlen
    have hlenI : (l.length : Int) - 1 = (m.length : Int) := by omega
    rw [show (m.length : Nat) + 1 = m.length + 1 from rfl] at hlen
    go_enter Tryd.func23, Tryd.ntmps23
    go_wp2_with (first
      | (go_at_call 44; refine (HR.out _).mono ?_; rintro e w1 ⟨rfl, rfl⟩)
      | (go_at_call 41; go_must (rw [E8.out]; refine (HPr.out _).mono ?_); rintro e w2 ⟨ad, cap, rfl, o2, g2⟩))
    have hx5 : x.toNat ≤ 255 := by omega
    clear hlen hlast hlenI
    go_loopw [6] (fun i wr => ∃ j : Nat, j ≤ x.toNat ∧ i = .int .i64 (j : Int) ∧ Gr w2 wr ∧ ∀ j', j' < j → bitOf m (bitAt h (8 * m.length) j') = true) (fun i _ => x.toNat - (intOf i).toNat)
    case atStart => exact ⟨0, Nat.zero_le _, rfl, Gr.refl _, fun j' h => by omega⟩
    case round =>
      obtain ⟨j, hj, rfl, hgw, hall⟩ := hrel
      have HALL := Lib.hid hall; clear hall
      by_cases hlj : j < x.toNat
      · have hp : bitAt h (8 * m.length) j < 8 * m.length := Nat.mod_lt _ (by omega)
        obtain ⟨g, rfl, _, hc⟩ := (o2.gr hgw).at (nv_get (probesL h (8 * m.length) x.toNat) j (by rw [probesL_len]; exact hlj))
        rw [probesL_get] at hc
        have HNO := Lib.hid (fun hb => allF_no (l := m) (h := h) (b := 8 * m.length) hlj hb)
        have HBit := HALL
        have hbt : ∀ (hq : bitAt h (8 * m.length) j / 8 < m.length), bitOf m (bitAt h (8 * m.length) j) = decide ((m[bitAt h (8 * m.length) j / 8]'hq).toNat / 2 ^ (bitAt h (8 * m.length) j % 8) % 2 = 1) := fun hq => bit_at hq
        have HSTEP := Lib.hid (show bitOf m (bitAt h (8 * m.length) j) = true → ∀ j', j' < j + 1 → bitOf m (bitAt h (8 * m.length) j') = true from fun hb j' h' => by
          by_cases e : j' = j
          · rw [e]; exact hb
          · exact HALL.out j' (by omega))
        generalize bitAt h (8 * m.length) j = p at *
        have hq : p / 8 < m.length := by omega
        have hbt := hbt hq
        have hq2 : p / 8 < l.length := by omega
        have hxy := HIN.out (p / 8) hq hq2
        have hby := byte_hi (l[p / 8])
        rw [← hxy] at hbt
        generalize hy : l[p / 8] = y at *
        have e1 : (p : Int).tdiv 8 = (p : Int) / 8 := Int.tdiv_eq_ediv_of_nonneg (by omega)
        have e2 : IntKind.i64.wrap ((p : Int) / 8) = (p : Int) / 8 := IntWalk.i64_in _ ⟨by omega, by omega⟩
        have e3 : ((p : Int) / 8).toNat = p / 8 := by omega
        have e4 : (p : Int).tmod 8 = (p : Int) % 8 := Int.tmod_eq_emod_of_nonneg (by omega)
        have e5 : IntKind.i64.wrap ((p : Int) % 8) = (p : Int) % 8 := IntWalk.i64_in _ ⟨by omega, by omega⟩
        have e6 : ((p : Int) % 8).toNat = p % 8 := by omega
        have b1 : 0 ≤ (p : Int) / 8 := by omega
        have b2 : (p : Int) / 8 < (l.length : Int) := by omega
        have b3 : 0 ≤ (p : Int) % 8 := by omega
        have HE := Lib.hid e1; have E2 := Lib.hid e2; have E3 := Lib.hid e3; have E4 := Lib.hid e4; have E5 := Lib.hid e5; have E6 := Lib.hid e6
        have HY := Lib.hid hy
        clear e1 e2 e3 e4 e5 e6 hxy hy
        have HBT := Lib.hid hbt; clear hbt
        have htm : ((y.toNat : Int) / 2 ^ (p % 8)).tmod 2 = ((y.toNat / 2 ^ (p % 8) % 2 : Nat) : Int) := by
          have e : (y.toNat : Int) / 2 ^ (p % 8) = ((y.toNat / 2 ^ (p % 8) : Nat) : Int) := by simp
          rw [e, Int.tmod_eq_emod_of_nonneg (Int.natCast_nonneg _)]
          generalize y.toNat / 2 ^ (p % 8) = q
          omega
        by_cases hbit : y.toNat / 2 ^ (p % 8) % 2 = 1
        · have bq : (((y.toNat : Int) / 2 ^ (p % 8)).tmod 2 == 0) = false := by rw [htm, hbit]; rfl
          have HB2 := Lib.hid (show bitOf m p = true by rw [HBT.out]; simpa using hbit)
          clear htm hbit
          go_wp2
          have e1 := HE.out; have e2 := E2.out; have e3 := E3.out; have e4 := E4.out; have e5 := E5.out; have e6 := E6.out; have hy := HY.out
          go_quiet (fail)
          clear e1 e2 e3 e4 e5 e6 hy
          go_wp2
          go_roundw
          case rel => exact ⟨j + 1, by omega, by go_num, hgw.trans (Gr.drewN _ _), HSTEP.out HB2.out⟩
          case measure => simp [intOf]; omega
        · have bq : (((y.toNat : Int) / 2 ^ (p % 8)).tmod 2 == 0) = true := by rw [htm, show y.toNat / 2 ^ (p % 8) % 2 = 0 by omega]; rfl
          have HB2 := Lib.hid (HNO.out (show bitOf m p = false by rw [HBT.out]; simpa using hbit))
          clear htm hbit
          go_wp2
          have e1 := HE.out; have e2 := E2.out; have e3 := E3.out; have e4 := E4.out; have e5 := E5.out; have e6 := E6.out; have hy := HY.out
          go_quiet (fail)
          clear e1 e2 e3 e4 e5 e6 hy
          go_wp2
          go_ret
          exact ⟨by rw [HB2.out]; rfl, (g2.trans hgw).trans (Gr.drewN _ _)⟩
      · obtain rfl : j = x.toNat := by omega
        have HYES := Lib.hid (allF_yes HALL.out)
        go_wp2
        go_ret
        exact ⟨by rw [HYES.out]; rfl, g2.trans hgw⟩
end Go.Proofs.YtlfbelocdpboeaaDoor
/- Layer 6 (bloom): blooms answers true; BloomHashes answers true. -/
namespace Go.Proofs.YtlfbelocdpboeaaDoor
set_option linter.unusedVariables false
set_option linter.unusedSimpArgs false
open Go.RowKit Bloom
theorem build_nil : buildF [] 10 = ([0, 0, 0, 0, 0, 0, 0, 0, 6], 0) := by decide +kernel
theorem build_a : ∃ G : List UInt8, buildF [[97]] 10 = (G, 0) ∧ G.length = 9 ∧ mayF G (hashF [97]) = true := ⟨_, rfl, by decide +kernel, by decide +kernel⟩
theorem may_nil : mayF [0, 0, 0, 0, 0, 0, 0, 0, 6] (hashF [97]) = false := by decide +kernel
theorem hash_nil : hashF [] = 3164544308#32 := by decide +kernel
theorem U_seed : U 3164544308#32 = 3164544308 := (U_lit (m := 3164544308) 3164544308 rfl (by decide)).symm
theorem owns_le {w : World} {base : Nat} {e : TypeId} {size : Nat} {ad : Option Addr} {cap n : Nat} {xs : List Value} (h : Owns w base e size ad cap n xs) : n ≤ cap ∧ cap ≤ maxLen := ⟨h.2.1, h.2.2.1⟩
theorem build_nil_any (w : World) : Calls Tryd.prog 25 #[.slice none 0 0, .int .i64 10] w (RetBE 5 w [0, 0, 0, 0, 0, 0, 0, 0, 6] 0) := by
  have B1 := bBuild_any none 0 [] 10 w (by decide) (Row.nil _ _) (fun s h => by simp at h) (by decide) (by decide)
  rw [build_nil] at B1
  exact B1
theorem build_a_any (G : List UInt8) (hG : buildF [[97]] 10 = (G, 0)) (w1 : World) : Calls Tryd.prog 25 #[.slice (some ⟨w1.heap.size, 0, none⟩) 1 1, .int .i64 10] (w1.alloc (.cells #[.string ⟨#[97]⟩] 9)) (RetBE 5 (w1.alloc (.cells #[.string ⟨#[97]⟩] 9)) G 0) := by
  have hrow : Row (w1.alloc (.cells #[.string ⟨#[97]⟩] 9)) (some ⟨w1.heap.size, 0, none⟩) (sv [[97]]) := Row.alloc _ _ _ (0, 0) _ rfl
  have hsh : Short [[97]] := fun s h => by
    rw [List.mem_singleton.1 h]; decide
  have B2 := bBuild_any (some ⟨w1.heap.size, 0, none⟩) 1 [[97]] 10 (w1.alloc (.cells #[.string ⟨#[97]⟩] 9)) (by decide) hrow hsh (by decide) (by decide)
  rw [hG] at B2
  exact B2
theorem may_nil_any (ad : Option Addr) (cap : Nat) (w : World) (h1 : 9 ≤ cap) (h2 : cap ≤ maxLen) (hb : Bytes w ad [0, 0, 0, 0, 0, 0, 0, 0, 6]) : Calls Tryd.prog 40 #[.slice ad 9 cap, .string ⟨#[97]⟩] w fun e w' => e = .returned (.bool false) ∧ Gr w w' := by
  have h := May_any [0, 0, 0, 0, 0, 0, 0, 0, 6] [97] ad cap w h1 h2 (by decide) hb (by decide)
  rw [may_nil] at h
  exact h
theorem may_a_any (G : List UInt8) (hGl : G.length = 9) (hGm : mayF G (hashF [97]) = true) (ad : Option Addr) (cap : Nat) (w : World) (h1 : G.length ≤ cap) (h2 : cap ≤ maxLen) (hb : Bytes w ad G) : Calls Tryd.prog 40 #[.slice ad G.length cap, .string ⟨#[97]⟩] w fun e w' => e = .returned (.bool true) ∧ Gr w w' := by
  have h := May_any G [97] ad cap w h1 h2 (by omega) hb (by decide)
  rw [hGm] at h
  exact h
theorem hash_nil_any (w : World) : Calls Tryd.prog 70 #[.string ⟨#[]⟩] w fun e w' => e = .returned (.int .u32 3164544308) ∧ Gr w w' := by
  have h := Hash_any [] w (by decide)
  rw [hash_nil, U_seed] at h
  exact h
end Go.Proofs.YtlfbelocdpboeaaDoor
/- Layer 6 (bloom): what filters do together; BloomMerges answers true. -/
namespace Go.Proofs.YtlfbelocdpboeaaDoor
set_option linter.unusedVariables false
set_option linter.unusedSimpArgs false
open Go.RowKit Bloom
theorem or_row (on on' : Nat → Bool) (n : Nat) : orF (rowF on n) (rowF on' n) = rowF (fun p => on p || on' p) n := by
  apply List.ext_getElem
  · simp [orF, rowF_len]
  · intro q h1 h2
    rw [rowF_get]
    simp only [orF, List.getElem_zipWith, rowF_get]
    apply UInt8.toNat_inj.1
    rw [UInt8.toNat_or, byteF_nat, byteF_nat, byteF_nat]
    apply Nat.eq_of_testBit_eq
    intro r
    rw [Nat.testBit_or, byteN_bit, byteN_bit, byteN_bit]
    cases decide (r < 8) <;> simp
theorem k_nat {k : Nat} (h : k ≤ 30) : (UInt8.ofNat k).toNat = k := by rw [UInt8.toNat_ofNat']; omega
theorem may_row (on : Nat → Bool) (n k : Nat) (h : BitVec 32) (hn : 1 ≤ n) (h1 : 1 ≤ k) (h2 : k ≤ 30) : mayF (rowF on n ++ [UInt8.ofNat k]) h = (List.range k).all fun j => on (bitAt h (8 * n) j) := by
  rw [may_yes _ _ _ (by rw [rowF_len]; exact hn) (by rw [k_nat h2]; exact h1) (by rw [k_nat h2]; exact h2), k_nat h2, rowF_len]
  unfold allF
  rw [Bool.eq_iff_iff, List.all_eq_true, List.all_eq_true]
  have e : ∀ j, bitOf (rowF on n) (bitAt h (8 * n) j) = on (bitAt h (8 * n) j) := fun j => bit_row on n _ (Nat.mod_lt _ (by omega))
  exact ⟨fun hj j hm => (e j) ▸ hj j hm, fun hj j hm => (e j).symm ▸ hj j hm⟩
theorem merge_rows (on on' : Nat → Bool) (n k : Nat) (hn : 1 ≤ n) (h1 : 1 ≤ k) (h2 : k ≤ 30) : mergeF (rowF on n ++ [UInt8.ofNat k]) (rowF on' n ++ [UInt8.ofNat k]) = (rowF (fun p => on p || on' p) n ++ [UInt8.ofNat k], 0) := by
  rw [merge_good _ _ _ (by rw [rowF_len, rowF_len]) (by rw [rowF_len]; exact hn) (by rw [k_nat h2]; exact h1) (by rw [k_nat h2]; exact h2), or_row]
theorem kF_le (b : Nat) : 1 ≤ kF b ∧ kF b ≤ 30 := by unfold kF; omega
theorem nF_le {len b : Nat} (hl : len ≤ 100000) (hb : b ≤ 64) : 8 ≤ nF len b ∧ nF len b ≤ 800001 := by
  have : len * b ≤ 100000 * 64 := Nat.mul_le_mul hl hb
  unfold nF; omega
theorem build_good {keys : List (List UInt8)} {b : Nat} (h1 : 1 ≤ b) (h2 : b ≤ 64) (hk : keys.length ≤ 100000) : buildF keys (b : Int) = (filterF keys b, 0) := by
  unfold buildF
  rw [if_neg (by omega), if_neg (by omega)]; rfl
theorem Row.take_ {w : World} {ad : Option Addr} {vs : List Value} (h : Row w ad vs) (n : Nat) : Row w ad (vs.take n) := fun i u hi => by
  rw [List.getElem?_take] at hi
  split at hi
  · exact h i u hi
  · cases hi
theorem sv_take (keys : List (List UInt8)) (n : Nat) : (sv keys).take n = sv (keys.take n) := by simp [sv, List.map_take]
theorem Short.take_ {l : List (List UInt8)} (h : Short l) (n : Nat) : Short (l.take n) := fun s hs => h s (List.mem_of_mem_take hs)
theorem Build_len (ad : Option Addr) (len cap : Nat) (keys : List (List UInt8)) (b : Nat) (w : World) (hlen : keys.length = len) (hm : len ≤ 100000) (h1 : 1 ≤ b) (h2 : b ≤ 64) (hr : Row w ad (sv keys)) (hsh : Short keys) :
    Calls Tryd.prog 25 #[.slice ad len cap, .int .i64 (b : Int)] w (RetBE 5 w (filterF keys b) 0) := by
  subst hlen
  have h := bBuild_any ad cap keys b w (by omega) hr hsh (by omega) (by omega)
  rw [build_good h1 h2 hm] at h
  exact h
theorem filter_len (keys : List (List UInt8)) (b : Nat) : (filterF keys b).length = nF keys.length b + 1 := by unfold filterF; rw [List.length_append, rowF_len]; rfl
end Go.Proofs.YtlfbelocdpboeaaDoor
/- Layer 6 (bloom): the reference's bits, as bytes. -/
namespace Go.Proofs.YtlfbelocdpboeaaDoor
set_option linter.unusedVariables false
set_option linter.unusedSimpArgs false
open Go.RowKit Bloom
theorem elemBool : Elem Tryd.prog 88 4 (.bool false) 1 1 := ⟨by kernel_rfl, by kernel_rfl, rfl, by decide⟩
def rowB (on : Nat → Bool) (b : Nat) : List Value := (List.range b).map fun p => .bool (on p)
theorem rowB_len (on : Nat → Bool) (b : Nat) : (rowB on b).length = b := by simp [rowB]
theorem rowB_get (on : Nat → Bool) (b p : Nat) (h : p < b) : (rowB on b)[p]? = some (.bool (on p)) := by simp [rowB, h]
theorem rowB_set (on : Nat → Bool) (b p : Nat) (h : p < b) : (rowB on b).set p (.bool true) = rowB (addB on p) b := by
  apply List.ext_getElem?
  intro i
  rw [List.getElem?_set]
  by_cases e : p = i
  · subst e
    rw [if_pos rfl, if_pos (by rw [rowB_len]; exact h), rowB_get _ _ _ h]
    simp [addB]
  · rw [if_neg e]
    by_cases hi : i < b
    · rw [rowB_get _ _ _ hi, rowB_get _ _ _ hi]
      unfold addB
      have : (i == p) = false := by rw [beq_eq_false_iff_ne]; exact fun k => e k.symm
      simp [this]
    · rw [List.getElem?_eq_none (by rw [rowB_len]; omega), List.getElem?_eq_none (by rw [rowB_len]; omega)]
theorem rowB_none (b : Nat) : List.replicate b (Value.bool false) = rowB (fun _ => false) b := by
  apply List.ext_getElem?
  intro i
  by_cases hi : i < b
  · rw [rowB_get _ _ _ hi]; simp [hi]
  · rw [List.getElem?_eq_none (by simp; omega), List.getElem?_eq_none (by rw [rowB_len]; omega)]
/-- the bits below a place -/
def belowB (on : Nat → Bool) (i : Nat) : Nat → Bool := fun p => on p && decide (p < i)
theorem below_off {on : Nat → Bool} {i : Nat} (h : on i = false) : belowB on (i + 1) = belowB on i := by
  funext p
  unfold belowB
  by_cases e : p = i
  · subst e; simp [h]
  · have : (p < i + 1) ↔ p < i := by omega
    simp [this]
theorem below_on {on : Nat → Bool} {i : Nat} (h : on i = true) : belowB on (i + 1) = addB (belowB on i) i := by
  funext p
  unfold belowB addB
  by_cases e : p = i
  · subst e; simp [h]
  · have : (p < i + 1) ↔ p < i := by omega
    have e2 : (p == i) = false := by rw [beq_eq_false_iff_ne]; exact e
    simp [this, e2]
theorem below_zero (on : Nat → Bool) : belowB on 0 = fun _ => false := by funext p; simp [belowB]
theorem below_all (on : Nat → Bool) (n : Nat) : rowF (belowB on (8 * n)) n = rowF on n := row_congr fun p hp => by simp [belowB, hp]
theorem below_byte (on : Nat → Bool) (i : Nat) : byteN (belowB on i) (i / 8) 8 + 2 ^ (i % 8) = byteN (belowB on i) (i / 8) 8 ||| 2 ^ (i % 8) ∧ byteN (belowB on i) (i / 8) 8 < 2 ^ (i % 8) := by
  have h1 : byteN (belowB on i) (i / 8) 8 = byteN (belowB on i) (i / 8) (i % 8) := byteN_cut (by omega) (fun r h1 h2 => by
    unfold belowB
    have : ¬ 8 * (i / 8) + r < i := by omega
    simp [this])
  have h2 := byteN_lt (belowB on i) (i / 8) (i % 8)
  rw [h1]
  refine ⟨?_, h2⟩
  apply Nat.eq_of_testBit_eq
  intro r
  rw [Nat.testBit_or, Nat.testBit_two_pow]
  have e : byteN (belowB on i) (i / 8) (i % 8) + 2 ^ (i % 8) = 2 ^ (i % 8) * 1 + byteN (belowB on i) (i / 8) (i % 8) := by omega
  rw [e, Nat.testBit_two_pow_mul_add _ h2]
  by_cases h3 : r < i % 8
  · have : ¬ i % 8 = r := by omega
    simp [h3, this]
  · rw [if_neg h3]
    have hz : (byteN (belowB on i) (i / 8) (i % 8)).testBit r = false := Nat.testBit_lt_two_pow (Nat.lt_of_lt_of_le h2 (Nat.pow_le_pow_right (by decide) (by omega)))
    rw [hz, Bool.false_or, Bool.eq_iff_iff, decide_eq_true_iff, Nat.testBit_one_eq_true_iff_self_eq_zero]
    omega
set_option maxRecDepth 100000 in
set_option maxHeartbeats 1000000 in
theorem rbytes_any (ad : Option Addr) (cap n : Nat) (on : Nat → Bool) (w : World) (hn : n ≤ 1000000) (hr : Row w ad (rowB on (8 * n))) :
    Calls Tryd.prog 42 #[.slice ad (8 * n) cap] w (RetB 5 w (rowF on n)) := by
  have hm1 : n ≤ maxLen := by unfold maxLen; omega
  have hm2 : 1 * n ≤ 281474976710656 := by omega
  go_enter Tryd.func42, Tryd.ntmps42
  go_wp2_with (at_make; go_must (refine wp_make elemB rfl rfl _ _ rfl n n rfl rfl (by omega) (by omega) (Nat.le_refl n) hm1 hm2 ?_); intro w1 o1 g1 z1)
  have hL : ∀ wr, Gr w1 wr → Row wr ad (rowB on (8 * n)) := fun wr g => hr.gr (g1.trans g)
  have HR := Lib.hid hr
  have o2 := o1
  rw [bv_replicate, zero_row, ← below_zero on] at o2
  clear o1 z1 hr hL
  have hne : ∀ k, k < w.heap.size → k ≠ w.heap.size := fun k h => by omega
  go_loopw [4] (fun i wr => ∃ j : Nat, j ≤ 8 * n ∧ i = .int .i64 (j : Int) ∧ Owns wr w.heap.size 5 1 (some ⟨w.heap.size, 0, none⟩) n n (bv (rowF (belowB on j) n)) ∧ Gr w wr) (fun i _ => 8 * n - (intOf i).toNat)
  case atStart => exact ⟨0, Nat.zero_le _, rfl, o2, g1⟩
  case round =>
    obtain ⟨j, hj, rfl, ho, hg⟩ := hrel
    by_cases hlt : j < 8 * n
    · obtain ⟨b0, off, rfl, hcw⟩ := HR.out j _ (rowB_get on (8 * n) j hlt)
      have hc := hg.cell hcw
      clear hcw
      cases hon : on j with
      | false =>
        rw [hon] at hc
        have HB := Lib.hid (below_off hon)
        clear hon
        go_wp2
        go_roundw
        case rel => exact ⟨j + 1, by omega, by go_num, by rw [HB.out]; exact ho, hg⟩
        case measure => simp [intOf]; omega
      | true =>
        rw [hon] at hc
        have HB := Lib.hid (below_on hon)
        clear hon
        have hq : j / 8 < n := by omega
        obtain ⟨_, e0, _, hcb⟩ := ho.at (bv_get (rowF (belowB on j) n) (j / 8) (by rw [rowF_len]; exact hq))
        cases e0
        rw [rowF_get] at hcb
        have hf := ho.unfrozen (i := j / 8) rfl (by omega)
        have hbb := below_byte on j
        have hpow : 2 ^ (j % 8) < 256 := Nat.pow_lt_pow_right (by decide) (show j % 8 < 8 by omega)
        have hyn : (UInt8.ofNat (byteN (belowB on j) (j / 8) 8 + 2 ^ (j % 8))).toNat = byteN (belowB on j) (j / 8) 8 ||| 2 ^ (j % 8) := by
          have h3 : byteN (belowB on j) (j / 8) 8 + 2 ^ (j % 8) < 256 := by
            rw [hbb.1]
            exact Nat.or_lt_two_pow (n := 8) (byteN_lt _ _ 8) hpow
          rw [UInt8.toNat_ofNat', Nat.mod_eq_of_lt h3, hbb.1]
        have hrs := row_set (belowB on j) n j hq _ hyn
        have ho2 := ho.store rfl hq (.int .u8 ((UInt8.ofNat (byteN (belowB on j) (j / 8) 8 + 2 ^ (j % 8))).toNat : Int))
        rw [bv_set, hrs, ← HB.out] at ho2
        have hval : ((byteF (belowB on j) (j / 8)).toNat : Int) + 2 ^ (j % 8) = ((UInt8.ofNat (byteN (belowB on j) (j / 8) 8 + 2 ^ (j % 8))).toNat : Int) := by
          rw [hyn, ← hbb.1, byteF_nat]; simp
        have hvlt := (UInt8.ofNat (byteN (belowB on j) (j / 8) 8 + 2 ^ (j % 8))).toNat_lt
        generalize UInt8.ofNat (byteN (belowB on j) (j / 8) 8 + 2 ^ (j % 8)) = y at *
        generalize byteF (belowB on j) (j / 8) = z at *
        have e1 : (j : Int).tdiv 8 = (j : Int) / 8 := Int.tdiv_eq_ediv_of_nonneg (by omega)
        have e2 : IntKind.i64.wrap ((j : Int) / 8) = (j : Int) / 8 := IntWalk.i64_in _ ⟨by omega, by omega⟩
        have e3 : ((j : Int) / 8).toNat = j / 8 := by omega
        have e4 : (j : Int).tmod 8 = (j : Int) % 8 := Int.tmod_eq_emod_of_nonneg (by omega)
        have e5 : IntKind.i64.wrap ((j : Int) % 8) = (j : Int) % 8 := IntWalk.i64_in _ ⟨by omega, by omega⟩
        have e6 : ((j : Int) % 8).toNat = j % 8 := by omega
        have b1 : 0 ≤ (j : Int) / 8 := by omega
        have b2 : (j : Int) / 8 < (n : Int) := by omega
        have b3 : 0 ≤ (j : Int) % 8 := by omega
        have HE := Lib.hid e1; have E2 := Lib.hid e2; have E3 := Lib.hid e3; have E4 := Lib.hid e4; have E5 := Lib.hid e5; have E6 := Lib.hid e6
        have HV := Lib.hid hval; have HP := Lib.hid hpow
        clear e1 e2 e3 e4 e5 e6 hbb hyn hrs hval hpow
        go_wp2
        have e1 := HE.out; have e2 := E2.out; have e3 := E3.out; have e4 := E4.out; have e5 := E5.out; have e6 := E6.out
        go_still_tail 13, (by kernel_rfl)
        clear e1 e2 e3 e4 e5 e6
        go_wp2
        go_roundw
        case rel =>
          have hv : ((z.toNat : Int) + 2 ^ (j % 8)) % 256 = (y.toNat : Int) := by
            rw [HV.out]
            have : y.toNat < 256 := y.toNat_lt
            omega
          rw [hv]
          exact ⟨j + 1, by omega, by go_num, ho2.gr (Gr.drew _), (hg.setCell (Nat.le_refl _) _).trans (Gr.drew _)⟩
        case measure => simp [intOf]; omega
    · obtain rfl : j = 8 * n := by omega
      rw [below_all] at ho
      have hl := rowF_len on n
      go_wp2
      go_ret
      exact ⟨_, n, by rw [hl]; rfl, by rw [hl]; exact ho, hg⟩
set_option maxRecDepth 100000 in
set_option maxHeartbeats 2000000 in
theorem rDocBuild_any (ad : Option Addr) (cap : Nat) (keys : List (List UInt8)) (bits : Int) (w : World) (hm : keys.length ≤ 100000) (hr : Row w ad (sv keys)) (hsh : Short keys) (h1 : -9223372036854775808 ≤ bits) (h2 : bits ≤ 9223372036854775807) :
    Calls Tryd.prog 17 #[.slice ad keys.length cap, .int .i64 bits] w fun e w' => e = .returned (.tuple #[.string (str (buildF keys bits).1), .int .i64 ((buildF keys bits).2 : Nat)]) ∧ Gr w w' := by
  by_cases hb : bits < 1 ∨ 64 < bits
  · have H := Lib.hid (show buildF keys bits = ([], 1) by unfold buildF; rw [if_pos hb])
    rcases hb with hb | hb
    all_goals
      go_enter Tryd.func17, Tryd.ntmps17
      go_wp2
      go_ret2
      exact ⟨by rw [H.out]; rfl, Gr.refl _⟩
  · obtain ⟨b, rfl⟩ := Int.eq_ofNat_of_zero_le (show 0 ≤ bits by omega)
    have hb1 : 1 ≤ b := by omega
    have hb2 : b ≤ 64 := by omega
    clear h1 h2
    rw [build_good hb1 hb2 hm]
    clear hb
    have hprod : keys.length * b ≤ 100000 * 64 := Nat.mul_le_mul hm hb2
    have hp0 : 0 ≤ (keys.length : Int) * (b : Int) := Int.mul_nonneg (by omega) (by omega)
    have hp1 : (keys.length : Int) * (b : Int) ≤ 6400000 := by have h3 : ((keys.length * b : Nat) : Int) ≤ 6400000 := (by omega); rw [Int.natCast_mul] at h3; exact h3
    have hN : ((nF keys.length b : Nat) : Int) = (max ((keys.length : Int) * (b : Int)) 64 + 7) / 8 := by
      unfold nF
      have h3 : ((keys.length * b : Nat) : Int) = (keys.length : Int) * (b : Int) := Int.natCast_mul _ _
      omega
    have hn8 : 8 ≤ nF keys.length b := by unfold nF; omega
    have hn9 : nF keys.length b ≤ 800001 := by unfold nF; omega
    have hK : ((kF b : Nat) : Int) = min (max ((b : Int) * 69 / 100) 1) 30 := by unfold kF; omega
    have hk1 : 1 ≤ kF b := by unfold kF; omega
    have hk2 : kF b ≤ 30 := by unfold kF; omega
    have HF := Lib.hid (show filterF keys b = rowF (onF keys (8 * nF keys.length b) (kF b)) (nF keys.length b) ++ [UInt8.ofNat (kF b)] from rfl)
    generalize nF keys.length b = n at *
    generalize kF b = k at *
    have HN := Lib.hid hN; have HK := Lib.hid hK; clear hN hK
    go_enter Tryd.func17, Tryd.ntmps17
    go_wp2
    rw [← HK.out]
    go_loop [7] (fun v => ∃ c : Nat, v = .int .i64 (c : Int) ∧ c ≤ 8 * n ∧ 8 * n < c + 8) (fun v => 8 * n - (intOf v).toNat)
    case atStart => exact ⟨(max ((keys.length : Int) * (b : Int)) 64).toNat, by congr 1; omega, by have := HN.out; omega, by have := HN.out; omega⟩
    case round =>
      obtain ⟨c, rfl, hc1, hc2⟩ := hrel
      by_cases hcm : c % 8 = 0
      · have hcn : c = 8 * n := by omega
        have bz : ((c : Int) % 8 != 0) = false := by rw [bne_eq_false_iff_eq]; omega
        have HC := Lib.hid hcn; clear hcn hcm
        have hm1 : c ≤ maxLen := by unfold maxLen; omega
        have hm2 : 1 * c ≤ 281474976710656 := by omega
        go_wp2_with (at_make; go_must (refine wp_make elemBool rfl rfl _ _ rfl c c rfl rfl rfl rfl (Nat.le_refl c) hm1 hm2 ?_); intro w1 o1 g1 z1)
        have o2 : Owns w1 w.heap.size 4 1 (some ⟨w.heap.size, 0, none⟩) c c (rowB (onF (keys.take 0) c k) c) := by
          rw [rowB_none] at o1; exact o1
        clear o1 z1 bz
        have hk5 : k ≤ 255 := by omega
        have hc32 : c < 4294967296 := by omega
        have hc0 : 0 < c := by omega
        go_loopw [9, 10, 11] (fun i _ _ wr => ∃ t : Nat, t ≤ keys.length ∧ i = .int .i64 (t : Int) ∧ Owns wr w.heap.size 4 1 (some ⟨w.heap.size, 0, none⟩) c c (rowB (onF (keys.take t) c k) c) ∧ Gr w wr) (fun i _ _ _ => keys.length - (intOf i).toNat)
        case atStart => exact ⟨0, Nat.zero_le _, rfl, o2, g1⟩
        case round =>
          obtain ⟨t, ht, rfl, ho, hg⟩ := hrel
          by_cases hlt : t < keys.length
          · obtain ⟨bb, off, rfl, hcell⟩ := (hr.gr hg) t _ (sv_get keys t hlt)
            have HP := Lib.hid (rProbes_any keys[t] c k wr (hsh.at_ t hlt) hc0 hc32 hk5)
            have HON := Lib.hid (show onF (keys.take (t + 1)) c k = fun p => onF (keys.take t) c k p || probesF (hashF keys[t]) c k p by funext p; rw [onF_take keys t hlt])
            generalize hashF keys[t] = h at *
            generalize onF (keys.take t) c k = on at *
            have hws := hg.size
            have howlt : w.heap.size < wr.heap.size := (ho.lt _ rfl).2
            go_wp2_with (go_at_call 41; refine HP.out.mono ?_; rintro e w2 ⟨ad2, cap2, rfl, oP, g2⟩)
            obtain ⟨wo, rfl⟩ : ∃ wo : World, wo = w2 := ⟨_, rfl⟩
            have hne : ∀ a, ad2 = some a → some a.block ≠ some w.heap.size := fun a ha e => by
              have h3 := (oP.lt a ha).1
              have h4 : a.block = w.heap.size := Option.some.inj e
              omega
            have HNE := Lib.hid hne; clear hne
            go_loopw [11] (fun jj wi => ∃ u : Nat, u ≤ k ∧ jj = .int .i64 (u : Int) ∧ Owns wi w.heap.size 4 1 (some ⟨w.heap.size, 0, none⟩) c c (rowB (fun p => on p || probesF h c u p) c) ∧ Owns wi wr.heap.size 3 1 ad2 cap2 k (nv (probesL h c k)) ∧ Gr w wi) (fun jj _ => k - (intOf jj).toNat)
            case atStart => exact ⟨0, Nat.zero_le _, rfl, by simp only [probesF_zero, Bool.or_false]; exact ho.gr g2, oP, hg.trans g2⟩
            case round =>
              obtain ⟨u, hu, rfl, hoi, hPi, hgi⟩ := hrel
              by_cases hul : u < k
              · have hp : bitAt h c u < c := Nat.mod_lt _ hc0
                obtain ⟨gp, e0, _, hcp⟩ := hPi.at (nv_get (probesL h c k) u (by rw [probesL_len]; exact hul))
                subst e0
                rw [probesL_get] at hcp
                obtain ⟨_, e1, _, hcb⟩ := hoi.at (rowB_get (fun p => on p || probesF h c u p) c (bitAt h c u) hp)
                cases e1
                have hf := hoi.unfrozen (i := bitAt h c u) rfl (by omega)
                have ho3 := hoi.store rfl hp (.bool true)
                rw [rowB_set _ _ _ hp] at ho3
                have hP3 := hPi.grown (grown_set _ w.heap.size (bitAt h c u) (.bool true)) HNE.out
                have HS := Lib.hid (show (fun p => on p || probesF h c (u + 1) p) = addB (fun p => on p || probesF h c u p) (bitAt h c u) by
                  funext p
                  unfold addB
                  rw [probesF_succ, Bool.or_assoc])
                generalize bitAt h c u = p at *
                go_wp2
                go_roundw
                case rel => exact ⟨u + 1, by omega, by go_num, by rw [HS.out]; exact ho3, hP3, hgi.setCell (Nat.le_refl _) _⟩
                case measure => simp [intOf]; omega
              · obtain rfl : u = k := by omega
                go_wp2
                go_roundw
                case rel => exact ⟨t + 1, by omega, by go_num, by rw [HON.out]; exact hoi, hgi⟩
                case measure => simp [intOf]; omega
          · obtain rfl : t = keys.length := by omega
            rw [List.take_length] at ho
            have hrow := ho.row
            have HB : Calls Tryd.prog 42 #[.slice (some ⟨w.heap.size, 0, none⟩) c c] wr (RetB 5 wr (rowF (onF keys (8 * n) k) n)) := by
              rw [HC.out] at hrow ⊢
              exact rbytes_any _ _ n _ wr (by omega) hrow
            have HB2 := Lib.hid HB
            have hrl := rowF_len (onF keys (8 * n) k) n
            generalize rowF (onF keys (8 * n) k) n = R at *
            have HRL := Lib.hid hrl
            have hR1 : R.length + 1 ≤ maxLen := by unfold maxLen; omega
            have hR2 : (R.length + 1) * 1 ≤ 140737488355328 := by omega
            clear HB hrl hrow
            have HX2 := Lib.hid (show (k : Int) = ((UInt8.ofNat k).toNat : Int) by rw [UInt8.toNat_ofNat']; omega)
            go_wp2_with (first
              | (go_at_call 42; refine HB2.out.mono ?_; rintro e w3 ⟨ad3, cap3, rfl, o3, g3⟩)
              | (at_builtin; go_must (refine wp_append elemB rfl _ _ rfl rfl (o3.gr (Gr.alloc _ _)) rfl (Src.one _ _ (UInt8.ofNat k) HX2.out Tryd.underlying26) hR1 hR2 (by have := g3.size; simp; omega) ?_); intro ad4 cap4 w4 o4 k4 f4; have o5 : Owns w4 wr.heap.size 5 1 ad4 cap4 (R.length + 1) (bv (R ++ [UInt8.ofNat k])) := (by rw [bv_append]; exact o4); have hst := run_string (P := Tryd.prog) Tryd.underlying26 Tryd.underlying5 Tryd.underlying9 (cap := cap4) (len := R.length + 1) (by simp) o5.bytes))
            go_ret2
            exact ⟨by rw [HF.out]; rfl, hg.trans (g3.app o3 (Nat.le_refl _) k4)⟩
      · have bz : ((c : Int) % 8 != 0) = true := by rw [bne_iff_ne]; omega
        go_wp2
        go_round
        case rel => exact ⟨c + 1, by go_num, by omega, by omega⟩
        case measure => simp [intOf]; omega
end Go.Proofs.YtlfbelocdpboeaaDoor
/- The plain law of layer 4 (crc): the register's step as a linear map of 32 bits, what bytes do to it, what a join does. No program is in sight here. -/
namespace Go.Proofs.YtlfbelocdpboeaaDoor.Crc
set_option linter.unusedVariables false
set_option linter.unusedSimpArgs false

/-- one bit down -/
def stepF (r : BitVec 32) : BitVec 32 := (r >>> 1) ^^^ (-(r &&& 1#32) &&& 0x82F63B78#32)
def iterF : Nat → BitVec 32 → BitVec 32
  | 0, r => r
  | n + 1, r => iterF n (stepF r)
def byteF (r : BitVec 32) (x : UInt8) : BitVec 32 := iterF 8 (r ^^^ BitVec.ofNat 32 x.toNat)
def foldF (r : BitVec 32) (l : List UInt8) : BitVec 32 := l.foldl byteF r
def moreF (s : BitVec 32) (l : List UInt8) : BitVec 32 := ~~~ (foldF (~~~ s) l)
def sumF (l : List UInt8) : BitVec 32 := moreF 0#32 l
/-- the reference's bit -/
def bitF (r b : BitVec 32) : BitVec 32 := if (r ^^^ b).toNat % 2 = 1 then (r >>> 1) ^^^ 0x82F63B78#32 else r >>> 1
/-- bits of a word, the lowest first -/
def bitsF : Nat → BitVec 32 → BitVec 32 → BitVec 32
  | 0, r, _ => r
  | n + 1, r, x => bitsF n (bitF r (x &&& 1#32)) (x >>> 1)

theorem neg_one_and (c : BitVec 32) : -(1#32) &&& c = c := by
  have : -(1#32) = BitVec.allOnes 32 := by decide
  rw [this, BitVec.allOnes_and]
theorem low_cases (r : BitVec 32) : r &&& 1#32 = 0#32 ∨ r &&& 1#32 = 1#32 := by
  have h : (r &&& 1#32).toNat = r.toNat % 2 := by
    rw [BitVec.toNat_and]; exact Nat.and_two_pow_sub_one_eq_mod _ 1
  rcases Nat.mod_two_eq_zero_or_one r.toNat with h2 | h2
  · left; apply BitVec.eq_of_toNat_eq; rw [h, h2]; rfl
  · right; apply BitVec.eq_of_toNat_eq; rw [h, h2]; rfl
theorem low_xor (a b : BitVec 32) : (a ^^^ b) &&& 1#32 = (a &&& 1#32) ^^^ (b &&& 1#32) := by
  ext i hi; simp [Bool.and_xor_distrib_right]
theorem stepF_xor (a b : BitVec 32) : stepF (a ^^^ b) = stepF a ^^^ stepF b := by
  have hs : (a ^^^ b) >>> 1 = a >>> 1 ^^^ b >>> 1 := by ext i hi; simp
  have hm : -((a ^^^ b) &&& 1#32) &&& 0x82F63B78#32 = (-(a &&& 1#32) &&& 0x82F63B78#32) ^^^ (-(b &&& 1#32) &&& 0x82F63B78#32) := by
    rw [low_xor]
    rcases low_cases a with ha | ha <;> rcases low_cases b with hb | hb <;> rw [ha, hb] <;> decide
  unfold stepF
  rw [hs, hm]
  ac_rfl
theorem stepF_zero : stepF 0#32 = 0#32 := by decide
theorem iterF_xor (n : Nat) : ∀ a b, iterF n (a ^^^ b) = iterF n a ^^^ iterF n b := by
  induction n with
  | zero => intro a b; rfl
  | succ n ih => intro a b; simp only [iterF, stepF_xor, ih]
theorem iterF_zero (n : Nat) : iterF n 0#32 = 0#32 := by
  induction n with
  | zero => rfl
  | succ n ih => simp only [iterF, stepF_zero, ih]
theorem iterF_add (m n : Nat) : ∀ r, iterF (m + n) r = iterF n (iterF m r) := by
  induction m with
  | zero => intro r; simp [iterF]
  | succ m ih => intro r; rw [Nat.succ_add]; simp only [iterF, ih]
theorem iterF_succ' (n : Nat) (r : BitVec 32) : iterF (n + 1) r = stepF (iterF n r) := by
  rw [iterF_add n 1]; rfl

theorem xor_low (x : BitVec 32) : (x ^^^ (x &&& 1#32)) &&& 1#32 = 0#32 := by
  rw [low_xor]
  rcases low_cases x with h | h <;> rw [h] <;> decide
/-- a word whose lowest bit is off is only moved -/
theorem stepF_even {x : BitVec 32} (h : x &&& 1#32 = 0#32) : stepF x = x >>> 1 := by
  unfold stepF; rw [h]; simp
theorem bitF_eq (r b : BitVec 32) (hb : b = 0#32 ∨ b = 1#32) : bitF r b = stepF (r ^^^ b) := by
  have hlow : (r ^^^ b).toNat % 2 = ((r ^^^ b) &&& 1#32).toNat := by
    rw [BitVec.toNat_and]; exact (Nat.and_two_pow_sub_one_eq_mod _ 1).symm
  have hsh : (r ^^^ b) >>> 1 = r >>> 1 := by
    rcases hb with rfl | rfl
    · simp
    · ext i hi
      have : (1#32).getLsbD (1 + i) = false := by
        simp
      simp [this]
  unfold bitF stepF
  rw [hlow, hsh]
  rcases low_cases (r ^^^ b) with h | h <;> rw [h]
  · simp
  · rw [neg_one_and]; simp
theorem bitsF_iter (n : Nat) : ∀ r x : BitVec 32, x >>> n = 0#32 → bitsF n r x = iterF n (r ^^^ x) := by
  induction n with
  | zero => intro r x h; have : x = 0#32 := by simpa using h
            subst this; simp [bitsF, iterF]
  | succ n ih =>
    intro r x h
    have hx : x >>> 1 >>> n = 0#32 := by rw [← BitVec.shiftRight_add, Nat.add_comm]; exact h
    simp only [bitsF, iterF]
    rw [ih _ _ hx, bitF_eq _ _ (low_cases x)]
    congr 1
    have hsplit : r ^^^ x = (r ^^^ (x &&& 1#32)) ^^^ (x ^^^ (x &&& 1#32)) := by
      rw [BitVec.xor_assoc, BitVec.xor_comm x (x &&& 1#32), ← BitVec.xor_assoc (x &&& 1#32), BitVec.xor_self, BitVec.zero_xor]
    rw [hsplit, stepF_xor (r ^^^ _) (x ^^^ _), stepF_even (xor_low x)]
    congr 1
    ext i hi
    simp
theorem bitsF_snoc (n : Nat) : ∀ r x, bitsF (n + 1) r x = bitF (bitsF n r x) ((x >>> n) &&& 1#32) := by
  induction n with
  | zero => intro r x; simp [bitsF]
  | succ n ih =>
    intro r x
    rw [show bitsF (n + 1 + 1) r x = bitsF (n + 1) (bitF r (x &&& 1#32)) (x >>> 1) from rfl, ih, ← BitVec.shiftRight_add, Nat.add_comm 1 n]
    rfl
theorem byte_shr (x : UInt8) : BitVec.ofNat 32 x.toNat >>> 8 = 0#32 := by
  apply BitVec.eq_of_toNat_eq
  have := x.toNat_lt
  rw [BitVec.toNat_ushiftRight, BitVec.toNat_ofNat, Nat.shiftRight_eq_div_pow]
  simp; omega
/-- the reference's eight bits of a byte are the program's eight steps -/
theorem bitsF_byte (r : BitVec 32) (x : UInt8) : bitsF 8 r (BitVec.ofNat 32 x.toNat) = byteF r x := bitsF_iter 8 _ _ (byte_shr x)

theorem foldF_append (r : BitVec 32) (l m : List UInt8) : foldF r (l ++ m) = foldF (foldF r l) m := List.foldl_append
theorem foldF_snoc (r : BitVec 32) (l : List UInt8) (x : UInt8) : foldF r (l ++ [x]) = byteF (foldF r l) x := by
  rw [foldF_append]; rfl
theorem moreF_append (s : BitVec 32) (l m : List UInt8) : moreF s (l ++ m) = moreF (moreF s l) m := by
  unfold moreF; rw [foldF_append, BitVec.not_not]

/-- a sum as it is written, and back -/
def maskF (x : BitVec 32) : BitVec 32 := (x <<< 17 ||| x >>> 15) + 2726488792#32
def unmaskF (m : BitVec 32) : BitVec 32 := (m - 2726488792#32) <<< 15 ||| (m - 2726488792#32) >>> 17
theorem join_nat (i x y : Nat) (hx : x % 2 ^ i = 0) (hy : y < 2 ^ i) : x ||| y = x + y := by
  obtain ⟨q, rfl⟩ : ∃ q, x = 2 ^ i * q := ⟨x / 2 ^ i, by have := Nat.div_add_mod x (2 ^ i); omega⟩
  exact (Nat.two_pow_add_eq_or_of_lt hy q).symm
theorem rot_nat (y : BitVec 32) (i j : Nat) (hij : i + j = 32) : (y <<< i ||| y >>> j).toNat = y.toNat * 2 ^ i % 4294967296 + y.toNat / 2 ^ j := by
  have hy := y.isLt
  rw [BitVec.toNat_or, BitVec.toNat_shiftLeft, BitVec.toNat_ushiftRight, Nat.shiftLeft_eq, Nat.shiftRight_eq_div_pow]
  refine join_nat i _ _ ?_ ?_
  · rw [show (2 : Nat) ^ 32 = 2 ^ i * 2 ^ j from by rw [← Nat.pow_add, hij]]
    rw [Nat.mul_comm, Nat.mul_mod_mul_left]
    exact Nat.mul_mod_right _ _
  · rw [Nat.div_lt_iff_lt_mul (Nat.two_pow_pos _), ← Nat.pow_add, hij]; exact hy
theorem maskF_nat (x : BitVec 32) : (maskF x).toNat = (x.toNat % 32768 * 131072 + x.toNat / 32768 + 2726488792) % 4294967296 := by
  unfold maskF
  rw [BitVec.toNat_add, rot_nat x 17 15 rfl]
  simp only [BitVec.toNat_ofNat]
  have := x.isLt
  omega
theorem unmaskF_nat (x : BitVec 32) : (unmaskF x).toNat = (x.toNat + 1568478504) % 4294967296 % 131072 * 32768 + (x.toNat + 1568478504) % 4294967296 / 131072 := by
  have h : (x - 2726488792#32).toNat = (x.toNat + 1568478504) % 4294967296 := by
    rw [BitVec.toNat_sub]; simp only [BitVec.toNat_ofNat]; have := x.isLt; omega
  unfold unmaskF
  rw [rot_nat _ 15 17 rfl, h]
  omega
theorem mask_core (q r : Nat) (hr : r < 32768) (hq : q < 131072) : ((r * 131072 + q + 2726488792) % 4294967296 + 1568478504) % 4294967296 = r * 131072 + q := by omega
theorem mask_core2 (q r : Nat) (hr : r < 32768) (hq : q < 131072) : (r * 131072 + q) % 131072 * 32768 + (r * 131072 + q) / 131072 = q * 32768 + r := by omega
theorem unmask_mask (x : BitVec 32) : unmaskF (maskF x) = x := by
  apply BitVec.eq_of_toNat_eq
  have hx := x.isLt
  rw [unmaskF_nat, maskF_nat, mask_core _ _ (by omega) (by omega), mask_core2 _ _ (by omega) (by omega)]
  omega
theorem umask_core (q r : Nat) (hr : r < 131072) (hq : q < 32768) : (r * 32768 + q) % 32768 * 131072 + (r * 32768 + q) / 32768 = q * 131072 + r := by omega
theorem mask_unmask (x : BitVec 32) : maskF (unmaskF x) = x := by
  apply BitVec.eq_of_toNat_eq
  have hx := x.isLt
  rw [maskF_nat, unmaskF_nat, umask_core _ _ (by omega) (by omega)]
  omega

/- a change of some bits -/
theorem stepF_eq_zero {x : BitVec 32} (h : stepF x = 0#32) : x = 0#32 := by
  rcases low_cases x with hl | hl
  · rw [stepF_even hl] at h
    have h2 : x.toNat % 2 = 0 := by
      have := congrArg BitVec.toNat hl
      rw [BitVec.toNat_and] at this
      have e : x.toNat &&& (1#32).toNat = x.toNat % 2 := Nat.and_two_pow_sub_one_eq_mod _ 1
      rw [e] at this; exact this
    have h3 : x.toNat / 2 = 0 := by
      have := congrArg BitVec.toNat h
      rw [BitVec.toNat_ushiftRight, Nat.shiftRight_eq_div_pow] at this; exact this
    apply BitVec.eq_of_toNat_eq
    show x.toNat = 0
    omega
  · exfalso
    unfold stepF at h
    rw [hl, neg_one_and] at h
    have := congrArg (fun v => BitVec.getLsbD v 31) h
    simp at this
theorem iterF_eq_zero (n : Nat) : ∀ x, iterF n x = 0#32 → x = 0#32 := by
  induction n with
  | zero => intro x h; exact h
  | succ n ih => intro x h; exact stepF_eq_zero (ih _ h)
theorem xor_cancel_left (a b c : BitVec 32) (h : a ^^^ b = a ^^^ c) : b = c := by
  have := congrArg (fun v => a ^^^ v) h
  simpa [← BitVec.xor_assoc] using this
theorem stepF_shl (i : Nat) (h : i + 1 < 32) : stepF (1#32 <<< (i + 1)) = 1#32 <<< i := by
  have hlow : (1#32 <<< (i + 1)) &&& 1#32 = 0#32 := by
    ext j hj
    simp only [BitVec.getElem_and, BitVec.getElem_shiftLeft, BitVec.getElem_one, BitVec.getElem_zero]
    by_cases h0 : j = 0
    · subst h0; simp
    · simp [h0]
  rw [stepF_even hlow]
  ext j hj
  simp only [BitVec.getElem_ushiftRight, BitVec.getLsbD_shiftLeft, BitVec.getElem_shiftLeft, BitVec.getElem_one, BitVec.getLsbD_one]
  by_cases h1 : j = i
  · subst h1
    have : 1 + j < 32 := by omega
    simp [this]; omega
  · by_cases h2 : j < i
    · have h3 : 1 + j < i + 1 := by omega
      simp [h2, h3]
    · have h3 : ¬ (1 + j - (i + 1) = 0) := by omega
      have h4 : ¬ (j - i = 0) := by omega
      simp [h2, h3, h4]
theorem iterF_shl (i : Nat) (h : i < 32) : iterF i (1#32 <<< i) = 1#32 := by
  induction i with
  | zero => rfl
  | succ i ih => rw [show iterF (i + 1) (1#32 <<< (i + 1)) = iterF i (stepF (1#32 <<< (i + 1))) from rfl, stepF_shl i h]; exact ih (by omega)
theorem iterF_shl_of (N i : Nat) (h : i < 32) (hN : i ≤ N) : iterF N (1#32 <<< i) = iterF (N - i) 1#32 := by
  rw [show N = i + (N - i) from by omega, iterF_add, iterF_shl i h]; congr 1; omega
theorem foldF_xor (l : List UInt8) : ∀ r d, foldF (r ^^^ d) l = foldF r l ^^^ iterF (8 * l.length) d := by
  induction l with
  | nil => intro r d; rfl
  | cons x l ih =>
    intro r d
    have : byteF (r ^^^ d) x = byteF r x ^^^ iterF 8 d := by
      unfold byteF
      rw [← iterF_xor]; congr 1; ac_rfl
    show foldF (byteF (r ^^^ d) x) l = foldF (byteF r x) l ^^^ _
    rw [this, ih, List.length_cons, Nat.mul_succ, Nat.add_comm, iterF_add]
theorem byteF_xor (r : BitVec 32) (x y : UInt8) : byteF r (x ^^^ y) = byteF r x ^^^ iterF 8 (BitVec.ofNat 32 y.toNat) := by
  unfold byteF
  rw [← iterF_xor]; congr 1
  have : BitVec.ofNat 32 (x ^^^ y).toNat = BitVec.ofNat 32 x.toNat ^^^ BitVec.ofNat 32 y.toNat := by
    rw [UInt8.toNat_xor]
    apply BitVec.eq_of_toNat_eq
    have hx := x.toNat_lt
    have hy := y.toNat_lt
    have hxy : x.toNat ^^^ y.toNat < 2 ^ 8 := Nat.xor_lt_two_pow hx hy
    rw [BitVec.toNat_xor, BitVec.toNat_ofNat, BitVec.toNat_ofNat, BitVec.toNat_ofNat, Nat.mod_eq_of_lt (by omega), Nat.mod_eq_of_lt (by omega), Nat.mod_eq_of_lt (by omega)]
  rw [this]; ac_rfl
theorem foldF_set (r : BitVec 32) (l : List UInt8) (q : Nat) (h : q < l.length) (y : UInt8) :
    foldF r (l.set q (l[q] ^^^ y)) = foldF r l ^^^ iterF (8 * (l.length - q)) (BitVec.ofNat 32 y.toNat) := by
  have e1 : l.set q (l[q] ^^^ y) = l.take q ++ ((l[q] ^^^ y) :: l.drop (q + 1)) := List.set_eq_take_append_cons_drop.trans (by rw [if_pos h])
  have e2 : l = l.take q ++ (l[q] :: l.drop (q + 1)) := by rw [List.getElem_cons_drop, List.take_append_drop]
  rw [e1]
  conv => rhs; rw [e2]
  rw [foldF_append, foldF_append]
  generalize foldF r (l.take q) = R
  show foldF (byteF R (l[q] ^^^ y)) (l.drop (q + 1)) = foldF (byteF R l[q]) (l.drop (q + 1)) ^^^ _
  rw [byteF_xor, foldF_xor, ← iterF_add]
  congr 2
  simp
  omega
theorem byte_one_shl (r : Nat) (h : r < 8) : BitVec.ofNat 32 (UInt8.ofNat (2 ^ r)).toNat = 1#32 <<< r := by
  match r, h with
  | 0, _ => rfl
  | 1, _ => rfl
  | 2, _ => rfl
  | 3, _ => rfl
  | 4, _ => rfl
  | 5, _ => rfl
  | 6, _ => rfl
  | 7, _ => rfl
/-- one bit of the text, turned -/
theorem sumF_flip (l : List UInt8) (p : Nat) (h : p / 8 < l.length) :
    sumF (l.set (p / 8) (l[p / 8] ^^^ UInt8.ofNat (2 ^ (p % 8)))) = sumF l ^^^ iterF (8 * l.length - p) 1#32 := by
  unfold sumF moreF
  rw [foldF_set _ _ _ h, byte_one_shl _ (Nat.mod_lt _ (by decide)), iterF_shl_of _ _ (by omega) (by omega), BitVec.not_xor_left]
  congr 2
  omega
theorem sumF_flip' (l : List UInt8) (q r : Nat) (h : q < l.length) (hr : r < 8) :
    sumF (l.set q (l[q] ^^^ UInt8.ofNat (2 ^ r))) = sumF l ^^^ iterF (8 * l.length - (8 * q + r)) 1#32 := by
  have e1 : (8 * q + r) / 8 = q := by omega
  have e2 : (8 * q + r) % 8 = r := by omega
  have := sumF_flip l (8 * q + r) (by rw [e1]; exact h)
  simp only [e1, e2] at this
  exact this
/-- the bits of a word below a place -/
def accF (t : BitVec 32) : Nat → BitVec 32
  | 0 => 0#32
  | i + 1 => accF t i ^^^ (if t.getLsbD i then 1#32 <<< i else 0#32)
theorem accF_bit (t : BitVec 32) (i : Nat) (hi : i ≤ 32) : ∀ j, (accF t i).getLsbD j = (decide (j < i) && t.getLsbD j) := by
  induction i with
  | zero => intro j; simp [accF]
  | succ i ih =>
    intro j
    have hb : (if t.getLsbD i then 1#32 <<< i else 0#32).getLsbD j = (decide (j = i) && t.getLsbD i) := by
      split
      · rename_i ht
        rw [ht]
        simp only [BitVec.getLsbD_shiftLeft, BitVec.getLsbD_one]
        by_cases h1 : j = i
        · subst h1; simp; omega
        · by_cases h2 : j < i
          · simp [h1, h2]
          · have : ¬ (j - i = 0) := by omega
            simp [h1, this]
      · rename_i ht
        simp at ht
        simp [ht]
    rw [accF, BitVec.getLsbD_xor, ih (by omega), hb]
    by_cases h1 : j = i
    · subst h1; simp
    · have : (j < i + 1) = (j < i) := by simp; omega
      simp [h1, this]
theorem accF_ne (t : BitVec 32) (i : Nat) (hi : i < 32) : (accF t (i + 1) ≠ 0#32) ↔ (accF t i ≠ 0#32 ∨ t.getLsbD i = true) := by
  have hz : ∀ (v : BitVec 32), v ≠ 0#32 ↔ ∃ j, v.getLsbD j = true := by
    intro v
    constructor
    · intro h
      rcases Classical.em (∃ j, v.getLsbD j = true) with h1 | h1
      · exact h1
      · exact absurd (BitVec.eq_of_getLsbD_eq fun j _ => by
          have : ¬ v.getLsbD j = true := fun h2 => h1 ⟨j, h2⟩
          simpa using this) h
    · rintro ⟨j, hj⟩ rfl
      simp at hj
  rw [hz, hz]
  simp only [accF_bit t i (by omega), accF_bit t (i + 1) hi]
  constructor
  · rintro ⟨j, hj⟩
    simp at hj
    by_cases h : j = i
    · subst h; exact .inr hj.2
    · exact .inl ⟨j, by simp [hj.2]; omega⟩
  · rintro (⟨j, hj⟩ | h)
    · simp at hj; exact ⟨j, by simp [hj.2]; omega⟩
    · exact ⟨i, by simp [h]⟩
def nz (x : BitVec 32) : Bool := decide (x ≠ 0#32)
theorem accF_on (t : BitVec 32) (i : Nat) (hi : i < 32) (h : t.getLsbD i = true) : accF t (i + 1) = accF t i ^^^ 1#32 <<< i ∧ nz (accF t (i + 1)) = true := by
  refine ⟨by rw [accF, if_pos h], ?_⟩
  unfold nz
  exact decide_eq_true ((accF_ne t i hi).2 (.inr h))
theorem accF_off (t : BitVec 32) (i : Nat) (h : ¬ t.getLsbD i = true) : accF t (i + 1) = accF t i := by
  rw [accF, if_neg h]; simp
theorem rel_on (l cl : List UInt8) (t : BitVec 32) (k i q r : Nat) (hq : q < cl.length) (hr : r < 8) (hk : k + i = 8 * q + r) (hi : i < 32) (hl : cl.length = l.length) (hb : t.getLsbD i = true)
    (hs : sumF cl = sumF l ^^^ iterF (8 * l.length - k) (accF t i)) :
    sumF (cl.set q (cl[q] ^^^ UInt8.ofNat (2 ^ r))) = sumF l ^^^ iterF (8 * l.length - k) (accF t (i + 1)) := by
  rw [sumF_flip' _ _ _ hq hr, hs, (accF_on t i hi hb).1, iterF_xor, iterF_shl_of _ _ hi (by omega), ← BitVec.xor_assoc, hl]
  congr 2
  omega
/-- what tells -/
theorem tells {s c d : BitVec 32} {N : Nat} (h : c = s ^^^ iterF N d) : (c ≠ s) ↔ d ≠ 0#32 := by
  subst h
  constructor
  · intro h hd; subst hd; rw [iterF_zero] at h; simp at h
  · intro h he
    have : iterF N d = 0#32 := xor_cancel_left s _ _ (by rw [he]; simp)
    exact h (iterF_eq_zero N d this)

theorem foldF_three : ∀ (x a b c : List UInt8) (r s t : BitVec 32), a.length = x.length → b.length = x.length → c.length = x.length →
    (∀ j, j < x.length → x.getD j 0 = a.getD j 0 ^^^ b.getD j 0 ^^^ c.getD j 0) → foldF (r ^^^ s ^^^ t) x = foldF r a ^^^ foldF s b ^^^ foldF t c
  | [], a, b, c, r, s, t, ha, hb, hc, _ => by
    rw [List.eq_nil_of_length_eq_zero ha, List.eq_nil_of_length_eq_zero hb, List.eq_nil_of_length_eq_zero hc]; rfl
  | x :: xs, a :: as9, b :: bs, c :: cs, r, s, t, ha, hb, hc, h => by
    have h0 : x = a ^^^ b ^^^ c := by simpa using h 0 (by simp)
    have ih := foldF_three xs as9 bs cs (byteF r a) (byteF s b) (byteF t c) (by simpa using ha) (by simpa using hb) (by simpa using hc)
      (fun j hj => by simpa using h (j + 1) (by simpa using hj))
    have hbyte : byteF (r ^^^ s ^^^ t) x = byteF r a ^^^ byteF s b ^^^ byteF t c := by
      have hx : ∀ p q : UInt8, BitVec.ofNat 32 (p ^^^ q).toNat = BitVec.ofNat 32 p.toNat ^^^ BitVec.ofNat 32 q.toNat := by
        intro p q
        rw [UInt8.toNat_xor]
        apply BitVec.eq_of_toNat_eq
        have hp := p.toNat_lt
        have hq := q.toNat_lt
        have hpq : p.toNat ^^^ q.toNat < 2 ^ 8 := Nat.xor_lt_two_pow hp hq
        rw [BitVec.toNat_xor, BitVec.toNat_ofNat, BitVec.toNat_ofNat, BitVec.toNat_ofNat, Nat.mod_eq_of_lt (by omega), Nat.mod_eq_of_lt (by omega), Nat.mod_eq_of_lt (by omega)]
      subst h0
      unfold byteF
      rw [← iterF_xor, ← iterF_xor, hx, hx]; congr 1; ac_rfl
    show foldF (byteF (r ^^^ s ^^^ t) x) xs = _
    rw [hbyte, ih]; rfl
theorem sumF_three (x a b c : List UInt8) (ha : a.length = x.length) (hb : b.length = x.length) (hc : c.length = x.length)
    (h : ∀ j, j < x.length → x.getD j 0 = a.getD j 0 ^^^ b.getD j 0 ^^^ c.getD j 0) : sumF x = sumF a ^^^ sumF b ^^^ sumF c := by
  have e := foldF_three x a b c (~~~ 0#32) (~~~ 0#32) (~~~ 0#32) ha hb hc h
  have e0 : (~~~ 0#32) ^^^ (~~~ 0#32) ^^^ (~~~ 0#32) = ~~~ 0#32 := by decide
  rw [e0] at e
  unfold sumF moreF
  rw [e]
  generalize foldF _ a = A
  generalize foldF _ b = B
  generalize foldF _ c = C
  rw [← BitVec.not_xor_left, ← BitVec.not_xor_left, BitVec.not_xor_right]
  ext i hi
  simp only [BitVec.getElem_not, BitVec.getElem_xor]
  cases A[i] <;> cases B[i] <;> cases C[i] <;> rfl

end Go.Proofs.YtlfbelocdpboeaaDoor.Crc
/- Layer 4 (crc): what each function computes. -/
namespace Go.Proofs.YtlfbelocdpboeaaDoor
set_option linter.unusedVariables false
set_option linter.unusedSimpArgs false
open Go.RowKit Crc
theorem step_any (r : BitVec 32) (w : World) : Calls Tryd.prog 84 #[.int .u32 (U r)] w fun e w' => e = .returned (.int .u32 (U (stepF r))) ∧ w = w' := by
  have h0 := U_lo r
  have h1 := U_hi r
  go_enter Tryd.func84, Tryd.ntmps84
  go_wp2
  go_ret
  refine ⟨ret_int ?_, rfl⟩
  have e3 : U r / 2 = _ := U_shr r 2 1 rfl
  rw [U_andc r 1 1 rfl (by decide), U_neg, U_andc _ 2197175160 2197175160 rfl (by decide), e3, U_xor]
  rfl
set_option maxRecDepth 100000 in
set_option maxHeartbeats 400000 in
theorem more_any (s : BitVec 32) (ad : Option Addr) (len cap : Nat) (l : List UInt8) (w : World) (hlen : l.length = len) (hm : len ≤ maxLen)
   (hc : Bytes w ad l) : 
    Calls Tryd.prog 77 #[.int .u32 (U s), .slice ad len cap] w fun e w' => e = .returned (.int .u32 (U (moreF s l))) ∧ w = w' := by
  have h0 := U_lo s
  have h1 := U_hi s
  have h2 := U_not s
  unfold maxLen at hm
  subst hlen
  go_enter Tryd.func77, Tryd.ntmps77
  go_wp2
  go_loop [5, 7, 12] (fun r _ i => ∃ k : Nat, k ≤ l.length ∧ i = .int .i64 k ∧ r = .int .u32 (U (foldF (~~~ s) (l.take k)))) (fun _ _ i => l.length - (intOf i).toNat)
  case atStart => 
    exact ⟨0, Nat.zero_le _, rfl, by rw [List.take_zero]; rfl⟩
  case round =>
    obtain ⟨k, hk, rfl, rfl⟩ := hrel
    by_cases hlt : k < l.length
    · obtain ⟨b, off, rfl, hcell⟩ := hc k hlt
      have hB1 := byte_hi l[k]
      have hx := U_xorB (foldF (~~~ s) (l.take k)) l[k]
      generalize hR : foldF (~~~ s) (l.take k) = R at *
      have HR := Lib.hid hR; clear hR
      go_wp2
      go_loop [5, 20] (fun r i => ∃ j : Nat, j ≤ 8 ∧ i = .int .i64 j ∧ r = .int .u32 (U (iterF j (R ^^^ BitVec.ofNat 32 l[k].toNat)))) (fun _ i => 8 - (intOf i).toNat)
      case atStart => exact ⟨0, by omega, rfl, by first | rw [iterF] | rw [bitsF]⟩
      case round =>
        obtain ⟨j, hj, rfl, rfl⟩ := hrel
        by_cases hj8 : j < 8
        · go_wp2_with (go_at_call 84; refine (step_any _ _).mono ?_; rintro e w' ⟨rfl, rfl⟩)
          go_round
          case rel => exact ⟨j + 1, by omega, by go_num, by rw [iterF_succ']⟩
          case measure => simp [intOf]; omega
        · obtain rfl : j = 8 := by omega
          go_wp2
          go_round
          case rel => exact ⟨k + 1, by omega, by go_num, by rw [List.take_succ_eq_append_getElem hlt, foldF_snoc, HR.out]; rfl⟩
          case measure => simp [intOf]; omega
    · obtain rfl : k = l.length := by omega
      have h3 := U_not (foldF (~~~ s) l)
      go_wp2
      go_ret
      exact ⟨rfl, rfl⟩
theorem sum_any (ad : Option Addr) (len cap : Nat) (l : List UInt8) (w : World) (hlen : l.length = len) (hm : len ≤ maxLen)
   (hc : Bytes w ad l) : 
    Calls Tryd.prog 59 #[.slice ad len cap] w fun e w' => e = .returned (.int .u32 (U (sumF l))) ∧ w = w' := by
  have hz : (0 : Int) = U 0#32 := U_lit 0 rfl (by decide)
  have HZ := Lib.hid hz; clear hz
  go_enter Tryd.func59, Tryd.ntmps59
  go_wp2_with (go_at_call 77; rw [HZ.out]; refine (more_any _ _ _ _ l _ hlen hm hc).mono ?_; rintro e w' ⟨rfl, rfl⟩)
  go_ret
  exact ⟨rfl, rfl⟩
theorem mask_any (x : BitVec 32) (w : World) : Calls Tryd.prog 58 #[.int .u32 (U x)] w fun e w' => e = .returned (.int .u32 (U (maskF x))) ∧ w = w' := by
  have h0 := U_lo x
  have h1 := U_hi x
  have e1 : bits BinOp.and IntKind.u64 (IntKind.u64.wrap (-15)) 31 = 17 := by decide
  have e2 := U_shl x 131072 17 rfl
  have e3 := U_shr x 32768 15 rfl
  have e4 := U_or (x <<< 17) (x >>> 15)
  have e5 := U_addc (x <<< 17 ||| x >>> 15) 2726488792 2726488792 rfl (by decide)
  go_enter Tryd.func58, Tryd.ntmps58
  go_wp2
  go_ret
  exact ⟨ret_int e5, rfl⟩
end Go.Proofs.YtlfbelocdpboeaaDoor
/- Layer 3 (varint): what each function computes. -/
namespace Go.Proofs.YtlfbelocdpboeaaDoor
set_option linter.unusedVariables false
set_option linter.unusedSimpArgs false
open Go.RowKit Varint
end Go.Proofs.YtlfbelocdpboeaaDoor
/- Layer 3 (varint): what the reference's functions compute. -/
namespace Go.Proofs.YtlfbelocdpboeaaDoor
set_option linter.unusedVariables false
set_option linter.unusedSimpArgs false
open Go.RowKit Varint
end Go.Proofs.YtlfbelocdpboeaaDoor
/- Layer 3 (varint): the other functions of the program and of the reference. -/
namespace Go.Proofs.YtlfbelocdpboeaaDoor
set_option linter.unusedVariables false
set_option linter.unusedSimpArgs false
open Go.RowKit Varint
theorem fold_bits (m : Int) (h1 : -9223372036854775808 ≤ m) (h2 : m ≤ 9223372036854775807) :
    bits .xor .u64 (IntKind.u64.wrap (wrap64 (m * 2))) (IntKind.u64.wrap (m / 9223372036854775808)) = (foldF m : Int) := by
  unfold foldF
  by_cases h : m < 0
  · have e1 : IntKind.u64.wrap (m / 9223372036854775808) = 18446744073709551615 := by rw [IntKind.wrap_u64]; omega
    have e2 : IntKind.u64.wrap (wrap64 (m * 2)) = ((m * 2 + 18446744073709551616).toNat : Int) := by rw [IntKind.wrap_u64]; unfold wrap64; omega
    rw [e1, e2, u64_xor_ones _ (by omega), if_pos h]; omega
  · have e1 : IntKind.u64.wrap (m / 9223372036854775808) = 0 := by rw [IntKind.wrap_u64]; omega
    have e2 : IntKind.u64.wrap (wrap64 (m * 2)) = ((m * 2).toNat : Int) := by rw [IntKind.wrap_u64]; unfold wrap64; omega
    rw [e1, e2, u64_xor_zero _ (by omega), if_neg h]; omega
theorem unfold_bits (n : Nat) (hn : n < 18446744073709551616) : bits .xor .i64 ((n : Int) / 2) (wrap64 (-wrap64 (bits .and .u64 (n : Int) 1))) = unfoldF n := by
  rw [u64_low n hn]
  have e : (n : Int) / 2 = ((n / 2 : Nat) : Int) := by omega
  unfold unfoldF
  by_cases h : n % 2 = 1
  · have e2 : wrap64 (-wrap64 ((n % 2 : Nat) : Int)) = -1 := by rw [h]; unfold wrap64; decide
    rw [e2, e, i64_xor_neg _ (by omega), if_pos h]
  · have h0 : n % 2 = 0 := by omega
    have e2 : wrap64 (-wrap64 ((n % 2 : Nat) : Int)) = 0 := by rw [h0]; unfold wrap64; decide
    rw [e2, e, i64_xor_zero _ (by omega), if_neg h]
theorem ret3_tup {k1 k2 k3 : IntKind} {a b c a' b' c' : Int} (ha : a = a') (hb : b = b') (hc : c = c') :
    Ending.returned (.tuple #[.int k1 a, .int k2 b, .int k3 c]) = .returned (.tuple #[.int k1 a', .int k2 b', .int k3 c']) := by
  subst ha hb hc; rfl
end Go.Proofs.YtlfbelocdpboeaaDoor
/- Layer 3 (varint): numbers of a fixed size. -/
namespace Go.Proofs.YtlfbelocdpboeaaDoor
set_option linter.unusedVariables false
set_option linter.unusedSimpArgs false
open Go.RowKit Varint
end Go.Proofs.YtlfbelocdpboeaaDoor
/- Layer 3 (varint): the reference's Get, and texts. -/
namespace Go.Proofs.YtlfbelocdpboeaaDoor
set_option linter.unusedVariables false
set_option linter.unusedSimpArgs false
open Go.RowKit Varint
end Go.Proofs.YtlfbelocdpboeaaDoor
/- Layer 1 (region): a pool in plain words. No program is in sight here. -/
namespace Go.Proofs.YtlfbelocdpboeaaDoor
set_option linter.unusedVariables false
set_option linter.unusedSimpArgs false
open Go.RowKit
/-- a region: is it there, its generation, its slabs, how far it is handed out -/
structure Land where
  there : Bool
  gen : Nat
  slabs : List Nat
  fill : Nat
def noLand : Land := ⟨false, 0, [], 0⟩
/-- a pool: how many bytes a slab has, the slabs' bytes, which are taken, the regions -/
structure PoolF where
  size : Nat
  bytes : List (List UInt8)
  taken : List Bool
  lands : List Land
def landAt (p : PoolF) (i : Nat) : Land := p.lands.getD i noLand
/-- a region that is in order -/
structure LandOk (p : PoolF) (l : Land) : Prop where
  nodup : l.slabs.Nodup
  lt : ∀ s ∈ l.slabs, s < p.bytes.length
  fill : (l.slabs = [] ∧ l.fill = 0) ∨ (l.slabs ≠ [] ∧ (l.slabs.length - 1) * p.size < l.fill ∧ l.fill ≤ l.slabs.length * p.size)
  away : l.there = false → l.slabs = []
/-- a pool that is in order -/
structure PoolOk (p : PoolF) : Prop where
  s1 : 64 ≤ p.size
  s2 : p.size ≤ 65536
  s3 : p.size % 8 = 0
  n1 : 1 ≤ p.bytes.length
  n2 : p.bytes.length ≤ 4096
  bl : ∀ b ∈ p.bytes, b.length = p.size
  tk : p.taken.length = p.bytes.length
  ln : p.lands.length = 256
  ld : ∀ i, i < 256 → LandOk p (landAt p i)
  has : ∀ s, s < p.bytes.length → (p.taken.getD s false = true ↔ ∃ i, i < 256 ∧ s ∈ (landAt p i).slabs)
  apart : ∀ i j s, i < 256 → j < 256 → s ∈ (landAt p i).slabs → s ∈ (landAt p j).slabs → i = j
theorem nodup_len : ∀ (n : Nat) (l : List Nat), l.Nodup → (∀ s ∈ l, s < n) → l.length ≤ n
  | 0, l, _, h => by
    cases l with
    | nil => simp
    | cons a t => have := h a (by simp); omega
  | n + 1, l, hd, h => by
    have h1 := nodup_len n (l.filter (· != n)) (hd.filter _) (fun s hs => by
      rw [List.mem_filter] at hs
      have := h s hs.1
      have h2 : s ≠ n := by simpa using hs.2
      omega)
    have h2 : l.length ≤ (l.filter (· != n)).length + 1 := by
      clear h1 h
      induction l with
      | nil => simp
      | cons a t ih =>
        rw [List.nodup_cons] at hd
        by_cases ha : a = n
        · subst ha
          have : t.filter (· != a) = t := List.filter_eq_self.2 (fun x hx => by
            have : x ≠ a := fun e => hd.1 (e ▸ hx)
            simpa using this)
          rw [List.filter_cons, if_neg (by simp), this]
          simp
        · rw [List.filter_cons, if_pos (by simpa using ha)]
          have := ih hd.2
          simp only [List.length_cons]
          omega
    omega
theorem LandOk.len {p : PoolF} {l : Land} (h : LandOk p l) : l.slabs.length ≤ p.bytes.length := nodup_len _ _ h.nodup h.lt
theorem LandOk.cap {p : PoolF} {l : Land} (h : LandOk p l) (hp : PoolOk p) : l.slabs.length * p.size ≤ 268435456 :=
  Nat.le_trans (Nat.mul_le_mul (Nat.le_trans h.len hp.n2) hp.s2) (by decide)
theorem LandOk.fill_le {p : PoolF} {l : Land} (h : LandOk p l) : l.fill ≤ l.slabs.length * p.size := by
  rcases h.fill with ⟨h1, h2⟩ | ⟨_, _, h3⟩
  · omega
  · exact h3
theorem landAt_set (p : PoolF) (i j : Nat) (l : Land) (hi : i < p.lands.length) : landAt { p with lands := p.lands.set i l } j = if i = j then l else landAt p j := by
  unfold landAt
  simp only [List.getD_eq_getElem?_getD, List.getElem?_set]
  by_cases h : i = j
  · subst h; simp [hi]
  · simp [h]
/-- the region of a number -/
def landF (p : PoolF) (r : Int) : Option Nat := if 0 ≤ r ∧ r < 256 ∧ (landAt p r.toNat).there = true then some r.toNat else none
theorem landF_some {p : PoolF} {r : Int} {i : Nat} (h : landF p r = some i) : r = (i : Int) ∧ i < 256 ∧ (landAt p i).there = true := by
  unfold landF at h
  split at h
  · rename_i hc
    cases h
    refine ⟨by omega, by omega, hc.2.2⟩
  · cases h
theorem landF_of {p : PoolF} {i : Nat} (hi : i < 256) (h : (landAt p i).there = true) : landF p (i : Int) = some i := by
  unfold landF
  rw [if_pos ⟨by omega, by omega, by simpa using h⟩]
  simp
/-- Make -/
def makeAt (p : PoolF) (i : Nat) : PoolF := { p with lands := p.lands.set i ⟨true, (landAt p i).gen + 1, [], 0⟩ }
def makeF (p : PoolF) : Option Nat := (List.range 256).find? fun i => !(landAt p i).there
theorem makeF_some {p : PoolF} {i : Nat} (h : makeF p = some i) : i < 256 ∧ (landAt p i).there = false ∧ ∀ j, j < i → (landAt p j).there = true := by
  unfold makeF at h
  rw [List.find?_range_eq_some] at h
  obtain ⟨h1, h2, h3⟩ := h
  refine ⟨by simpa using h2, by simpa using h1, fun j hj => ?_⟩
  have := h3 j hj
  simpa using this
theorem makeF_none {p : PoolF} (h : makeF p = none) : ∀ j, j < 256 → (landAt p j).there = true := by
  unfold makeF at h
  rw [List.find?_eq_none] at h
  intro j hj
  have := h j (by simpa using hj)
  simpa using this
theorem makeF_is {p : PoolF} {i : Nat} (hi : i < 256) (h0 : (landAt p i).there = false) (h1 : ∀ j, j < i → (landAt p j).there = true) : makeF p = some i := by
  unfold makeF
  rw [List.find?_range_eq_some]
  exact ⟨by simpa using h0, by simpa using hi, fun j hj => by simpa using h1 j hj⟩
theorem makeF_isnone {p : PoolF} (h1 : ∀ j, j < 256 → (landAt p j).there = true) : makeF p = none := by
  unfold makeF
  rw [List.find?_eq_none]
  intro j hj
  have := h1 j (by simpa using hj)
  simpa using this
/-- the least idle slab -/
def idleF (p : PoolF) : Option Nat := (List.range p.taken.length).find? fun s => !(p.taken.getD s false)
theorem idleF_some {p : PoolF} {s : Nat} (h : idleF p = some s) : s < p.taken.length ∧ p.taken.getD s false = false ∧ ∀ j, j < s → p.taken.getD j false = true := by
  unfold idleF at h
  rw [List.find?_range_eq_some] at h
  obtain ⟨h1, h2, h3⟩ := h
  refine ⟨by simpa using h2, by simpa using h1, fun j hj => ?_⟩
  have := h3 j hj
  simpa using this
theorem idleF_none {p : PoolF} (h : idleF p = none) : ∀ j, j < p.taken.length → p.taken.getD j false = true := by
  unfold idleF at h
  rw [List.find?_eq_none] at h
  intro j hj
  have := h j (by simpa using hj)
  simpa using this
/-- a region has one slab more -/
def growAt (p : PoolF) (i s : Nat) : PoolF :=
  { p with bytes := p.bytes.set s (List.replicate p.size 0), taken := p.taken.set s true, lands := p.lands.set i ⟨(landAt p i).there, (landAt p i).gen, (landAt p i).slabs ++ [s], (landAt p i).slabs.length * p.size⟩ }
def fillAt (p : PoolF) (i f : Nat) : PoolF := { p with lands := p.lands.set i ⟨(landAt p i).there, (landAt p i).gen, (landAt p i).slabs, f⟩ }
/-- a piece -/
structure Hd where
  region : Int
  gen : Int
  off : Int
  len : Int
def noHd : Hd := ⟨0, 0, 0, 0⟩
def alignOk (a : Int) : Bool := a == 1 || a == 2 || a == 4 || a == 8 || a == 16 || a == 32 || a == 64
def upTo (n a : Nat) : Nat := (n + a - 1) / a * a
/-- how much of the last slab is handed out -/
def inF (p : PoolF) (i : Nat) : Nat := p.size - ((landAt p i).slabs.length * p.size - (landAt p i).fill)
/-- Alloc: the piece, the error, the pool behind it -/
def allocF (p : PoolF) (r n a : Int) : Hd × Nat × PoolF :=
  match landF p r with
  | none => (noHd, 7, p)
  | some i =>
    if n < 1 ∨ n > (p.size : Int) ∨ alignOk a = false then (noHd, 1, p)
    else
      let at_ := upTo (inF p i) a.toNat
      if (landAt p i).slabs = [] ∨ p.size < at_ + n.toNat then
        match idleF p with
        | none => (noHd, 5, p)
        | some s => (⟨(i : Int), ((landAt p i).gen : Int), (((landAt p i).slabs.length * p.size : Nat) : Int), n⟩, 0, fillAt (growAt p i s) i ((landAt p i).slabs.length * p.size + n.toNat))
      else (⟨(i : Int), ((landAt p i).gen : Int), ((((landAt p i).slabs.length - 1) * p.size + at_ : Nat) : Int), n⟩, 0, fillAt p i (((landAt p i).slabs.length - 1) * p.size + at_ + n.toNat))
/-- a piece's slab and where it begins there; or the error -/
def pieceF (p : PoolF) (h : Hd) : (Nat × Nat) × Nat :=
  match landF p h.region with
  | none => ((0, 0), 3)
  | some i =>
    if ((landAt p i).gen : Int) ≠ h.gen then ((0, 0), 3)
    else if h.len < 1 ∨ h.off < 0 ∨ h.off > ((landAt p i).fill : Int) ∨ h.len > ((landAt p i).fill : Int) - h.off then ((0, 0), 1)
    else if h.off.toNat % p.size + h.len.toNat > p.size then ((0, 0), 1)
    else (((landAt p i).slabs.getD (h.off.toNat / p.size) 0, h.off.toNat % p.size), 0)
def bytesAt (p : PoolF) (s : Nat) : List UInt8 := p.bytes.getD s []
/-- Load -/
def loadF (p : PoolF) (h : Hd) : List UInt8 × Nat :=
  match pieceF p h with
  | ((s, k), 0) => (((bytesAt p s).drop k).take h.len.toNat, 0)
  | (_, e) => ([], e)
/-- Store -/
def storeF (p : PoolF) (h : Hd) (at_ : Int) (b : List UInt8) : Nat × PoolF :=
  match pieceF p h with
  | ((s, k), 0) =>
    if at_ < 0 ∨ at_ > h.len ∨ (b.length : Int) > h.len - at_ then (1, p)
    else (0, { p with bytes := p.bytes.set s (((bytesAt p s).take (k + at_.toNat)) ++ b ++ ((bytesAt p s).drop (k + at_.toNat + b.length))) })
  | (_, e) => (e, p)
/-- Free -/
def freeSlabs (p : PoolF) (l : List Nat) : PoolF := { p with bytes := l.foldl (fun bs s => bs.set s (List.replicate p.size 0xDD)) p.bytes, taken := l.foldl (fun t s => t.set s false) p.taken }
def freeF (p : PoolF) (r : Int) : Nat × PoolF :=
  match landF p r with
  | none => (7, p)
  | some i => (0, { freeSlabs p (landAt p i).slabs with lands := p.lands.set i ⟨false, (landAt p i).gen, [], 0⟩ })
def slabsF (p : PoolF) (r : Int) : List Nat × Nat :=
  match landF p r with
  | none => ([], 7)
  | some i => ((landAt p i).slabs, 0)
def rawF (p : PoolF) (s : Int) : List UInt8 × Nat := if s < 0 ∨ s ≥ (p.bytes.length : Int) then ([], 1) else (bytesAt p s.toNat, 0)
def countF (p : PoolF) : Nat := (p.taken.filter (!·)).length
/-- New -/
def newF (size slabs : Nat) : PoolF := ⟨size, List.replicate slabs (List.replicate size 0), List.replicate slabs false, List.replicate 256 noLand⟩
def newOk (size slabs : Int) : Bool := decide (64 ≤ size) && decide (size ≤ 65536) && decide (size % 8 = 0) && decide (1 ≤ slabs) && decide (slabs ≤ 4096) && decide (size * slabs ≤ 4194304)
theorem landAt_new (size slabs i : Nat) : landAt (newF size slabs) i = noLand := by
  unfold landAt newF
  simp only [List.getD_eq_getElem?_getD, List.getElem?_replicate]
  split <;> rfl
theorem new_ok {size slabs : Nat} (h1 : 64 ≤ size) (h2 : size ≤ 65536) (h3 : size % 8 = 0) (h4 : 1 ≤ slabs) (h5 : slabs ≤ 4096) : PoolOk (newF size slabs) := by
  have hb : (newF size slabs).bytes.length = slabs := List.length_replicate
  have ht : (newF size slabs).taken.length = slabs := List.length_replicate
  refine ⟨h1, h2, h3, by rw [hb]; exact h4, by rw [hb]; exact h5, fun b hb => ?_, by rw [hb, ht], List.length_replicate, fun i _ => ?_, fun s hs => ?_, fun i j s _ _ hs => ?_⟩
  · rw [List.eq_of_mem_replicate hb]; exact List.length_replicate
  · rw [landAt_new]; exact ⟨by simp [noLand], by simp [noLand], .inl ⟨rfl, rfl⟩, fun _ => rfl⟩
  · simp only [landAt_new, noLand, List.not_mem_nil, and_false, exists_false, iff_false]
    show ¬ (List.replicate slabs false).getD s false = true
    rw [List.getD_eq_getElem?_getD, List.getElem?_replicate]
    split <;> simp
  · rw [landAt_new] at hs; simp [noLand] at hs
/-- a region turned: what stays -/
theorem make_ok {p : PoolF} (h : PoolOk p) {i : Nat} (hi : i < 256) (h0 : (landAt p i).there = false) : PoolOk (makeAt p i) := by
  have hs : (landAt p i).slabs = [] := (h.ld i hi).away h0
  have hl : i < p.lands.length := by rw [h.ln]; exact hi
  have ha : ∀ j, landAt (makeAt p i) j = if i = j then ⟨true, (landAt p i).gen + 1, [], 0⟩ else landAt p j := fun j => landAt_set p i j _ hl
  have hsl : ∀ j, (landAt (makeAt p i) j).slabs = (landAt p j).slabs := fun j => by
    rw [ha]; split
    · rename_i e; subst e; exact hs.symm
    · rfl
  refine ⟨h.s1, h.s2, h.s3, h.n1, h.n2, h.bl, h.tk, by simpa [makeAt] using h.ln, fun j hj => ?_, fun s hs => ?_, fun j k s hj hk h1 h2 => ?_⟩
  · rw [ha]; split
    · exact ⟨by simp, by simp, .inl ⟨rfl, rfl⟩, fun _ => rfl⟩
    · have := h.ld j hj
      exact ⟨this.nodup, this.lt, this.fill, this.away⟩
  · simp only [hsl]; exact h.has s hs
  · rw [hsl] at h1 h2; exact h.apart j k s hj hk h1 h2
end Go.Proofs.YtlfbelocdpboeaaDoor
/- Layer 1 (region): how a piece is aligned, in bits. No program is in sight here. -/
namespace Go.Proofs.YtlfbelocdpboeaaDoor
set_option linter.unusedVariables false
set_option linter.unusedSimpArgs false
open Go.RowKit
theorem i64_align (x k : Nat) (hk : k ≤ 6) (hx : x < 9223372036854775808) : bits .andNot .i64 (x : Int) ((2 ^ k - 1 : Nat) : Int) = ((x / 2 ^ k * 2 ^ k : Nat) : Int) := by
  show IntKind.i64.wrap ((BitVec.ofInt 64 (x : Int) &&& ~~~BitVec.ofInt 64 ((2 ^ k - 1 : Nat) : Int)).toNat : Int) = _
  rw [BitVec.ofInt_natCast, BitVec.ofInt_natCast]
  have e : (BitVec.ofNat 64 x &&& ~~~BitVec.ofNat 64 (2 ^ k - 1)) = BitVec.ofNat 64 (x / 2 ^ k * 2 ^ k) := by
    apply BitVec.eq_of_getLsbD_eq
    intro i hi
    simp only [BitVec.getLsbD_and, BitVec.getLsbD_not, BitVec.getLsbD_ofNat, hi, decide_true, Bool.true_and, Nat.testBit_two_pow_sub_one, Nat.testBit_mul_two_pow, Nat.testBit_div_two_pow]
    by_cases h : i < k
    · have : ¬ k ≤ i := by omega
      simp [h, this]
    · have h2 : k ≤ i := by omega
      simp [h, h2]
  rw [e, BitVec.toNat_ofNat]
  have hle : x / 2 ^ k * 2 ^ k ≤ x := Nat.div_mul_le_self _ _
  rw [Nat.mod_eq_of_lt (by omega), IntKind.wrap_i64]
  omega
theorem pow_check : ∀ a : Fin 65, 1 ≤ a.val → (decide (bits .and .i64 (a.val : Int) ((a.val : Int) - 1) = 0) = alignOk (a.val : Int)) := by decide +kernel
theorem align_check {a : Int} (h1 : 1 ≤ a) (h2 : a ≤ 64) : (bits .and .i64 a (a - 1) = 0 ∧ alignOk a = true) ∨ (bits .and .i64 a (a - 1) ≠ 0 ∧ alignOk a = false) := by
  have := pow_check ⟨a.toNat, by omega⟩ (by simp only; omega)
  simp only [show (a.toNat : Int) = a by omega] at this
  cases hk : alignOk a with
  | true => rw [hk] at this; exact .inl ⟨by simpa using this, rfl⟩
  | false => rw [hk] at this; exact .inr ⟨by simpa using this, rfl⟩
theorem alignOk_pow {a : Int} (h : alignOk a = true) : ∃ k : Nat, k ≤ 6 ∧ a = ((2 ^ k : Nat) : Int) := by
  unfold alignOk at h
  simp only [Bool.or_eq_true, beq_iff_eq] at h
  rcases h with (((((h | h) | h) | h) | h) | h) | h
  · exact ⟨0, by decide, h⟩
  · exact ⟨1, by decide, h⟩
  · exact ⟨2, by decide, h⟩
  · exact ⟨3, by decide, h⟩
  · exact ⟨4, by decide, h⟩
  · exact ⟨5, by decide, h⟩
  · exact ⟨6, by decide, h⟩
theorem alignOk_range {a : Int} (h : alignOk a = true) : 1 ≤ a ∧ a ≤ 64 := by
  unfold alignOk at h
  simp only [Bool.or_eq_true, beq_iff_eq] at h
  omega
/-- 'in' aligned -/
theorem align_up {x : Nat} {a : Int} (h : alignOk a = true) (hx : x ≤ 1000000000) : bits .andNot .i64 ((x : Int) + a - 1) (a - 1) = ((upTo x a.toNat : Nat) : Int) := by
  obtain ⟨k, hk, rfl⟩ := alignOk_pow h
  have hp : 0 < 2 ^ k := Nat.two_pow_pos k
  have hr := alignOk_range h
  have e1 : (x : Int) + ((2 ^ k : Nat) : Int) - 1 = ((x + 2 ^ k - 1 : Nat) : Int) := by omega
  have e2 : ((2 ^ k : Nat) : Int) - 1 = ((2 ^ k - 1 : Nat) : Int) := by omega
  rw [e1, e2, i64_align _ k hk (by omega)]
  unfold upTo
  rw [Int.toNat_natCast]
theorem upTo_bounds {x a : Nat} (h : 1 ≤ a) : x ≤ upTo x a ∧ upTo x a < x + a := by
  unfold upTo
  have h1 := Nat.div_add_mod (x + a - 1) a
  have h2 := Nat.mod_lt (x + a - 1) (show 0 < a by omega)
  have h3 : (x + a - 1) / a * a = a * ((x + a - 1) / a) := Nat.mul_comm _ _
  omega
end Go.Proofs.YtlfbelocdpboeaaDoor
/- Layer 1 (region): every call leaves the pool in order. No program is in sight here. -/
namespace Go.Proofs.YtlfbelocdpboeaaDoor
set_option linter.unusedVariables false
set_option linter.unusedSimpArgs false
open Go.RowKit
theorem Land.eta (l : Land) : (⟨l.there, l.gen, l.slabs, l.fill⟩ : Land) = l := rfl
theorem getD_set_bool (l : List Bool) (s j : Nat) (b : Bool) (hs : s < l.length) : (l.set s b).getD j false = if s = j then b else l.getD j false := by
  simp only [List.getD_eq_getElem?_getD, List.getElem?_set]
  by_cases h : s = j
  · subst h; simp [hs]
  · simp [h]
theorem landAt_grow {p : PoolF} (h : PoolOk p) {i : Nat} (hi : i < 256) (s j : Nat) : landAt (growAt p i s) j = if i = j then ⟨(landAt p i).there, (landAt p i).gen, (landAt p i).slabs ++ [s], (landAt p i).slabs.length * p.size⟩ else landAt p j :=
  landAt_set { p with bytes := p.bytes.set s (List.replicate p.size 0), taken := p.taken.set s true } i j _ (by show i < p.lands.length; rw [h.ln]; exact hi)
theorem landAt_fill {p : PoolF} (h : p.lands.length = 256) {i : Nat} (hi : i < 256) (f j : Nat) : landAt (fillAt p i f) j = if i = j then ⟨(landAt p i).there, (landAt p i).gen, (landAt p i).slabs, f⟩ else landAt p j :=
  landAt_set p i j _ (by rw [h]; exact hi)
theorem grow_lands {p : PoolF} (h : PoolOk p) (i s : Nat) : (growAt p i s).lands.length = 256 := by show (p.lands.set i _).length = 256; rw [List.length_set]; exact h.ln
theorem mem_bytes_set {α : Type} {l : List α} {s : Nat} {x y : α} (h : y ∈ l.set s x) : y ∈ l ∨ y = x := List.mem_or_eq_of_mem_set h
/-- a region has a slab more, and is handed out so far -/
theorem growfill_ok {p : PoolF} (h : PoolOk p) {i s f : Nat} (hi : i < 256) (hth : (landAt p i).there = true) (hs : s < p.taken.length) (h0 : p.taken.getD s false = false) (f1 : (landAt p i).slabs.length * p.size < f) (f2 : f ≤ ((landAt p i).slabs.length + 1) * p.size) :
    PoolOk (fillAt (growAt p i s) i f) := by
  have hA : ∀ j, landAt (fillAt (growAt p i s) i f) j = if i = j then ⟨(landAt p i).there, (landAt p i).gen, (landAt p i).slabs ++ [s], f⟩ else landAt p j := fun j => by
    rw [landAt_fill (grow_lands h i s) hi, landAt_grow h hi, landAt_grow h hi, if_pos rfl]
    split <;> rfl
  have hsb : s < p.bytes.length := by rw [← h.tk]; exact hs
  have hbl : (fillAt (growAt p i s) i f).bytes.length = p.bytes.length := List.length_set
  have hnot : ∀ j, j < 256 → s ∉ (landAt p j).slabs := fun j hj hm => by
    have := (h.has s hsb).2 ⟨j, hj, hm⟩
    rw [h0] at this; cases this
  have hsl : ∀ j, (landAt (fillAt (growAt p i s) i f) j).slabs = if i = j then (landAt p i).slabs ++ [s] else (landAt p j).slabs := fun j => by rw [hA]; split <;> rfl
  refine ⟨h.s1, h.s2, h.s3, by rw [hbl]; exact h.n1, by rw [hbl]; exact h.n2, fun b hb => ?_, ?_, ?_, fun j hj => ?_, fun t ht => ?_, fun j k t hj hk m1 m2 => ?_⟩
  · rcases mem_bytes_set hb with h1 | h1
    · exact h.bl b h1
    · rw [h1]; exact List.length_replicate
  · rw [hbl]; show (p.taken.set s true).length = _; rw [List.length_set]; exact h.tk
  · show ((growAt p i s).lands.set i _).length = 256; rw [List.length_set]; exact grow_lands h i s
  · rw [hA]
    by_cases e : i = j
    · subst e
      rw [if_pos rfl]
      have hl := h.ld i hi
      refine ⟨?_, fun t ht => ?_, .inr ⟨by simp, ?_, ?_⟩, fun hf => ?_⟩
      · refine List.nodup_append.2 ⟨hl.nodup, by simp, fun a ha b hb e => ?_⟩
        rw [List.mem_singleton] at hb
        exact hnot i hi (by rw [← hb, ← e]; exact ha)
      · rw [hbl]
        rcases List.mem_append.1 ht with h1 | h1
        · exact hl.lt t h1
        · rw [List.mem_singleton] at h1; rw [h1]; exact hsb
      · show (((landAt p i).slabs ++ [s]).length - 1) * p.size < f
        simpa using f1
      · show f ≤ ((landAt p i).slabs ++ [s]).length * p.size
        simpa using f2
      · exact absurd (hth.symm.trans hf) (by simp)
    · rw [if_neg e]
      have hl := h.ld j hj
      exact ⟨hl.nodup, fun t ht => by rw [hbl]; exact hl.lt t ht, hl.fill, hl.away⟩
  · rw [hbl] at ht
    have hg : (fillAt (growAt p i s) i f).taken.getD t false = if s = t then true else p.taken.getD t false := getD_set_bool p.taken s t true hs
    rw [hg]
    by_cases e : s = t
    · subst e
      rw [if_pos rfl]
      exact ⟨fun _ => ⟨i, hi, by rw [hsl, if_pos rfl]; simp⟩, fun _ => rfl⟩
    · rw [if_neg e, h.has t ht]
      constructor
      · rintro ⟨j, hj, hm⟩
        refine ⟨j, hj, ?_⟩
        rw [hsl]
        split
        · rename_i e2; subst e2; exact List.mem_append_left _ hm
        · exact hm
      · rintro ⟨j, hj, hm⟩
        refine ⟨j, hj, ?_⟩
        rw [hsl] at hm
        split at hm
        · rename_i e2; subst e2
          rcases List.mem_append.1 hm with h1 | h1
          · exact h1
          · rw [List.mem_singleton] at h1; exact absurd h1.symm e
        · exact hm
  · rw [hsl] at m1 m2
    by_cases ej : i = j
    · subst ej
      by_cases ek : i = k
      · exact ek
      · rw [if_pos rfl] at m1
        rw [if_neg ek] at m2
        rcases List.mem_append.1 m1 with h1 | h1
        · exact h.apart i k t hi hk h1 m2
        · rw [List.mem_singleton] at h1; rw [h1] at m2; exact absurd m2 (hnot k hk)
    · rw [if_neg ej] at m1
      by_cases ek : i = k
      · subst ek
        rw [if_pos rfl] at m2
        rcases List.mem_append.1 m2 with h1 | h1
        · exact h.apart j i t hj hi m1 h1
        · rw [List.mem_singleton] at h1; rw [h1] at m1; exact absurd m1 (hnot j hj)
      · rw [if_neg ek] at m2
        exact h.apart j k t hj hk m1 m2
/-- a region is handed out further within its last slab -/
theorem fill_ok {p : PoolF} (h : PoolOk p) {i f : Nat} (hi : i < 256) (hne : (landAt p i).slabs ≠ []) (f1 : ((landAt p i).slabs.length - 1) * p.size < f) (f2 : f ≤ (landAt p i).slabs.length * p.size) : PoolOk (fillAt p i f) := by
  have hA := fun j => landAt_fill (p := p) h.ln hi f j
  have hsl : ∀ j, (landAt (fillAt p i f) j).slabs = (landAt p j).slabs := fun j => by
    rw [hA]; split
    · rename_i e; subst e; rfl
    · rfl
  refine ⟨h.s1, h.s2, h.s3, h.n1, h.n2, h.bl, h.tk, ?_, fun j hj => ?_, fun t ht => ?_, fun j k t hj hk m1 m2 => ?_⟩
  · show (p.lands.set i _).length = 256; rw [List.length_set]; exact h.ln
  · have hl := h.ld j hj
    rw [hA]
    by_cases e : i = j
    · subst e; rw [if_pos rfl]
      exact ⟨hl.nodup, hl.lt, .inr ⟨hne, f1, f2⟩, hl.away⟩
    · rw [if_neg e]; exact ⟨hl.nodup, hl.lt, hl.fill, hl.away⟩
  · simp only [hsl]; exact h.has t ht
  · rw [hsl] at m1 m2; exact h.apart j k t hj hk m1 m2
theorem inF_bounds {p : PoolF} (h : PoolOk p) {i : Nat} (hi : i < 256) : inF p i ≤ p.size ∧ ((landAt p i).slabs ≠ [] → (landAt p i).fill = ((landAt p i).slabs.length - 1) * p.size + inF p i ∧ 1 ≤ inF p i) := by
  have hl := h.ld i hi
  unfold inF
  refine ⟨Nat.sub_le _ _, fun hne => ?_⟩
  rcases hl.fill with ⟨h1, _⟩ | ⟨_, h2, h3⟩
  · exact absurd h1 hne
  · obtain ⟨k, hk⟩ : ∃ k, (landAt p i).slabs.length = k + 1 := ⟨(landAt p i).slabs.length - 1, by
      cases hsl : (landAt p i).slabs with
      | nil => exact absurd hsl hne
      | cons _ _ => simp⟩
    rw [hk] at h2 h3 ⊢
    simp only [Nat.add_sub_cancel] at h2 ⊢
    rw [Nat.add_mul] at h3 ⊢
    omega
theorem alloc_ok {p : PoolF} (h : PoolOk p) (r n a : Int) : PoolOk (allocF p r n a).2.2 := by
  unfold allocF
  cases hl : landF p r with
  | none => exact h
  | some i =>
    obtain ⟨_, hi, hth⟩ := landF_some hl
    simp only
    split
    · exact h
    · rename_i hb
      have hn1 : 1 ≤ n.toNat := by omega
      have hn2 : n.toNat ≤ p.size := by omega
      split
      · cases hid : idleF p with
        | none => exact h
        | some s =>
          obtain ⟨h1, h2, _⟩ := idleF_some hid
          simp only
          exact growfill_ok h hi hth h1 h2 (by omega) (by rw [Nat.add_mul]; omega)
      · rename_i hg
        have hne : (landAt p i).slabs ≠ [] := fun e => hg (.inl e)
        have hfit : ¬ p.size < upTo (inF p i) a.toNat + n.toNat := fun e => hg (.inr e)
        simp only
        refine fill_ok h hi hne (by omega) ?_
        obtain ⟨k, hk⟩ : ∃ k, (landAt p i).slabs.length = k + 1 := ⟨(landAt p i).slabs.length - 1, by
          cases hsl : (landAt p i).slabs with
          | nil => exact absurd hsl hne
          | cons _ _ => simp⟩
        rw [hk, Nat.add_sub_cancel, Nat.add_mul]
        omega
theorem setB_ok {p : PoolF} (h : PoolOk p) (s : Nat) (b : List UInt8) (hb : s < p.bytes.length → b.length = p.size) : PoolOk { p with bytes := p.bytes.set s b } := by
  have hl : ∀ j, landAt { p with bytes := p.bytes.set s b } j = landAt p j := fun _ => rfl
  have hbl : ({ p with bytes := p.bytes.set s b } : PoolF).bytes.length = p.bytes.length := List.length_set
  refine ⟨h.s1, h.s2, h.s3, by rw [hbl]; exact h.n1, by rw [hbl]; exact h.n2, fun y hy => ?_, by rw [hbl]; exact h.tk, h.ln, fun j hj => ?_, fun t ht => h.has t (by rw [hbl] at ht; exact ht), h.apart⟩
  · by_cases hs : s < p.bytes.length
    · rcases mem_bytes_set hy with h1 | h1
      · exact h.bl y h1
      · rw [h1]; exact hb hs
    · rw [List.set_eq_of_length_le (by omega)] at hy
      exact h.bl y hy
  · have := h.ld j hj
    exact ⟨this.nodup, fun t ht => by rw [hbl]; exact this.lt t ht, this.fill, this.away⟩
end Go.Proofs.YtlfbelocdpboeaaDoor
/- Layer 1 (region): a pool in memory. -/
namespace Go.Proofs.YtlfbelocdpboeaaDoor
set_option linter.unusedVariables false
set_option linter.unusedSimpArgs false
open Go.RowKit
/-- only blocks of S have changed -/
structure Chg (S : Nat → Prop) (w w' : World) : Prop where
  os : w'.os = w.os
  tape : w'.tape = w.tape
  output : w'.output = w.output
  size : w.heap.size ≤ w'.heap.size
  block : ∀ j, j < w.heap.size → ¬ S j → w'.heap[j]? = w.heap[j]?
section
variable {S S' : Nat → Prop} {a w w' w2 : World}
theorem Chg.refl (w : World) : Chg S w w := ⟨rfl, rfl, rfl, Nat.le_refl _, fun _ _ _ => rfl⟩
theorem Chg.trans (h : Chg S w w') (k : Chg S' w' w2) (hs : ∀ j, S' j → S j ∨ w.heap.size ≤ j) : Chg S w w2 :=
  ⟨k.os.trans h.os, k.tape.trans h.tape, k.output.trans h.output, Nat.le_trans h.size k.size, fun j hj hn => (k.block j (Nat.lt_of_lt_of_le hj h.size) (fun hs' => by
    rcases hs j hs' with h1 | h1
    · exact hn h1
    · omega)).trans (h.block j hj hn)⟩
theorem Gr.chg (h : Gr w w') : Chg S w w' := ⟨h.os, h.tape, h.output, h.size, fun j hj _ => h.block j hj⟩
theorem Chg.grown {b : Nat} (h : w.grownBy w' (some b)) (hb : S b) : Chg S w w' := ⟨h.os, h.tape, h.output, h.size, fun j hj hn => h.block j hj (fun e => hn ((Option.some.inj e) ▸ hb))⟩
theorem Chg.grownO {o : Option Nat} (h : w.grownBy w' o) (hb : ∀ b, o = some b → S b) : Chg S w w' := ⟨h.os, h.tape, h.output, h.size, fun j hj hn => h.block j hj (fun e => hn (hb j e.symm))⟩
theorem Chg.gr (h : Chg S w w') (k : Gr a w) (hs : ∀ j, S j → a.heap.size ≤ j) : Gr a w' :=
  ⟨h.os.trans k.os, h.tape.trans k.tape, h.output.trans k.output, Nat.le_trans k.size h.size, fun j hj => (h.block j (Nat.lt_of_lt_of_le hj k.size) (fun e => by have := hs j e; omega)).trans (k.block j hj)⟩
theorem Chg.heap (h : Chg S w w') {j : Nat} {o : Obj} (hj : w.heap[j]? = some o) (hn : ¬ S j) : w'.heap[j]? = some o := (h.block j (Array.getElem?_eq_some_iff.1 hj).1 hn).trans hj
theorem Chg.blk (h : Chg S w w') {g : Nat} {t : TypeId} {cs : List Value} (hb : Blk w g t cs) (hn : ¬ S g) : Blk w' g t cs := h.heap hb hn
theorem Chg.owns (h : Chg S w w') {base : Nat} {e : TypeId} {size : Nat} {ad : Option Addr} {cap n : Nat} {xs : List Value} (ho : Owns w base e size ad cap n xs) (hn : ∀ x, ad = some x → ¬ S x.block) : Owns w' base e size ad cap n xs :=
  ho.kept fun k hk => h.block k (ho.lt _ hk).2 (hn _ hk)
theorem Chg.row (h : Chg S w w') {ad : Option Addr} {vs : List Value} (hr : Row w ad vs) (hn : ∀ x, ad = some x → ¬ S x.block) : Row w' ad vs := fun i u hi => by
  obtain ⟨b, off, e, hc⟩ := hr i u hi
  refine ⟨b, off, e, ?_⟩
  have := h.block b (World.block_lt_of_cell? w _ hc) (hn _ e)
  unfold World.cell? at hc ⊢
  simp only at hc ⊢
  rw [this]; exact hc
end
theorem Blk.ne {w : World} {g g' : Nat} {t t' : TypeId} {cs cs' : List Value} (h : Blk w g t cs) (h' : Blk w g' t' cs') (ht : t ≠ t') : g ≠ g' := fun e => by
  subst e
  unfold Blk at h h'
  rw [h] at h'
  cases h'
  exact ht rfl
theorem Blk.owns_ne {w : World} {g : Nat} {t e : TypeId} {cs : List Value} (h : Blk w g t cs) {base size cap n : Nat} {ad : Option Addr} {xs : List Value} (ho : Owns w base e size ad cap n xs) (ht : t ≠ e) : ∀ x, ad = some x → x.block ≠ g := fun x hx ex => by
  obtain ⟨_, _, _, ⟨e1, _⟩ | ⟨g', cur, fr, e1, e2, hg, _⟩⟩ := ho
  · rw [e1] at hx; cases hx
  · rw [e1] at hx; cases hx
    simp only at ex
    subst ex
    unfold Blk at h
    rw [h] at hg
    cases hg
    exact ht rfl
theorem Owns.ne {w : World} {e e' : TypeId} {base base' size size' cap cap' n n' : Nat} {ad ad' : Option Addr} {xs xs' : List Value} (h : Owns w base e size ad cap n xs) (h' : Owns w base' e' size' ad' cap' n' xs') (ht : e ≠ e') : ∀ x y, ad = some x → ad' = some y → x.block ≠ y.block := fun x y hx hy ex => by
  obtain ⟨_, _, _, ⟨e1, _⟩ | ⟨g, cur, fr, e1, _, hg, _⟩⟩ := h
  · rw [e1] at hx; cases hx
  · obtain ⟨_, _, _, ⟨e2, _⟩ | ⟨g', cur', fr', e2, _, hg', _⟩⟩ := h'
    · rw [e2] at hy; cases hy
    · rw [e1] at hx; rw [e2] at hy; cases hx; cases hy
      simp only at ex
      subst ex
      rw [hg] at hg'
      cases hg'
      exact ht rfl
/-- rows of four cells each -/
def flat (F : Nat → List Value) (n : Nat) : List Value := (List.range n).flatMap F
theorem flat_succ (F : Nat → List Value) (n : Nat) : flat F (n + 1) = flat F n ++ F n := by simp [flat, List.range_succ]
theorem flat_congr {F G : Nat → List Value} : ∀ n, (∀ i, i < n → F i = G i) → flat F n = flat G n
  | 0, _ => rfl
  | n + 1, h => by rw [flat_succ, flat_succ, flat_congr n (fun i hi => h i (by omega)), h n (by omega)]
theorem flat_len {F : Nat → List Value} (hF : ∀ i, (F i).length = 4) : ∀ n, (flat F n).length = 4 * n
  | 0 => rfl
  | n + 1 => by rw [flat_succ, List.length_append, flat_len hF n, hF]; omega
theorem flat_get {F : Nat → List Value} (hF : ∀ i, (F i).length = 4) : ∀ n i k, i < n → k < 4 → (flat F n)[i * 4 + k]? = (F i)[k]?
  | 0, _, _, h, _ => by omega
  | n + 1, i, k, h, hk => by
    rw [flat_succ]
    have hl := flat_len hF n
    by_cases hi : i < n
    · rw [List.getElem?_append_left (by omega)]
      exact flat_get hF n i k hi hk
    · obtain rfl : i = n := by omega
      rw [List.getElem?_append_right (by omega), hl]
      congr 1; omega
theorem flat_set {F : Nat → List Value} (hF : ∀ i, (F i).length = 4) : ∀ n i k v, i < n → k < 4 → (flat F n).set (i * 4 + k) v = flat (fun j => if j = i then (F j).set k v else F j) n
  | 0, _, _, _, h, _ => by omega
  | n + 1, i, k, v, h, hk => by
    rw [flat_succ, flat_succ]
    have hl := flat_len hF n
    by_cases hi : i < n
    · rw [List.set_append_left _ _ (by omega), flat_set hF n i k v hi hk, if_neg (by omega)]
    · obtain rfl : i = n := by omega
      rw [List.set_append_right _ _ (by omega), hl, if_pos rfl, show i * 4 + k - 4 * i = k by omega]
      congr 1
      exact flat_congr _ (fun j hj => by rw [if_neg (by omega)])
/-- a region's cells -/
def landV (l : Land) (ad : Option Addr) (cap : Nat) : List Value := [.bool l.there, .int .i64 (l.gen : Int), .slice ad l.slabs.length cap, .int .i64 (l.fill : Int)]
def poolV (p : PoolF) (ads : Option Addr) (cs : Nat) (adt : Option Addr) (ct : Nat) (A : Nat → Option Addr) (C : Nat → Nat) : List Value :=
  [.int .i64 (p.size : Int), .slice ads p.bytes.length cs, .slice adt p.taken.length ct] ++ flat (fun i => landV (landAt p i) (A i) (C i)) 256
def iv (l : List Nat) : List Value := l.map fun (n : Nat) => .int .i64 (n : Int)
def slabV (bd : Nat → Nat) (size n : Nat) : List Value := (List.range n).map fun i => .slice (some ⟨bd i, 0, none⟩) size size
section
variable {w w' : World} {S S' : Nat → Prop} {g : Nat} {p : PoolF} {ads adt : Option Addr} {cs ct : Nat} {A : Nat → Option Addr} {C bd : Nat → Nat}
theorem landV_len (l : Land) (ad : Option Addr) (cap : Nat) : (landV l ad cap).length = 4 := rfl
theorem poolV_land {i k : Nat} (hi : i < 256) (hk : k < 4) : (poolV p ads cs adt ct A C)[3 + i * 4 + k]? = (landV (landAt p i) (A i) (C i))[k]? := by
  unfold poolV
  rw [List.getElem?_append_right (by simp; omega), show 3 + i * 4 + k - [Value.int .i64 (p.size : Int), .slice ads p.bytes.length cs, .slice adt p.taken.length ct].length = i * 4 + k by simp; omega]
  exact flat_get (fun i => landV_len _ _ _) 256 i k hi hk
end
def upd {α : Type} (A : Nat → α) (i : Nat) (a : α) : Nat → α := fun j => if j = i then a else A j
theorem upd_same {α : Type} (A : Nat → α) (i : Nat) (a : α) : upd A i a i = a := by simp [upd]
theorem upd_other {α : Type} (A : Nat → α) {i j : Nat} (a : α) (h : j ≠ i) : upd A i a j = A j := by simp [upd, h]
section
variable {w w' : World} {S : Nat → Prop} {g : Nat} {p : PoolF} {ads adt : Option Addr} {cs ct : Nat} {A : Nat → Option Addr} {C bd : Nat → Nat}
theorem head_set {hd : List Value} (hh : hd.length = 3) {F : Nat → List Value} (hF : ∀ i, (F i).length = 4) {i k : Nat} (hi : i < 256) (hk : k < 4) (v : Value) :
    (hd ++ flat F 256).set (3 + i * 4 + k) v = hd ++ flat (fun j => if j = i then (F j).set k v else F j) 256 := by
  rw [List.set_append_right _ _ (by omega), hh, show 3 + i * 4 + k - 3 = i * 4 + k by omega, flat_set hF 256 i k v hi hk]
def setLand (p : PoolF) (i : Nat) (l : Land) : PoolF := { p with lands := p.lands.set i l }
theorem poolV_setLand (hl : p.lands.length = 256) {i : Nat} (hi : i < 256) (l : Land) (ad : Option Addr) (cap : Nat) :
    poolV (setLand p i l) ads cs adt ct (upd A i ad) (upd C i cap) = [.int .i64 (p.size : Int), .slice ads p.bytes.length cs, .slice adt p.taken.length ct] ++ flat (fun j => if j = i then landV l ad cap else landV (landAt p j) (A j) (C j)) 256 := by
  unfold poolV
  congr 1
  refine flat_congr _ fun j hj => ?_
  have ha : landAt (setLand p i l) j = if i = j then l else landAt p j := landAt_set p i j l (by omega)
  rw [ha]
  by_cases e : j = i
  · subst e
    rw [if_pos rfl, if_pos rfl, upd_same, upd_same]
  · rw [if_neg (fun x => e x.symm), if_neg e, upd_other _ _ e, upd_other _ _ e]
theorem landV_if_len (i : Nat) (l : Land) (ad : Option Addr) (cap : Nat) : ∀ j, (if j = i then landV l ad cap else landV (landAt p j) (A j) (C j)).length = 4 := fun j => by split <;> rfl
theorem poolV_set4 (hl : p.lands.length = 256) {i : Nat} (hi : i < 256) (l : Land) (ad : Option Addr) (cap : Nat) :
    ((((poolV p ads cs adt ct A C).set (3 + i * 4) (.bool l.there)).set (3 + i * 4 + 1) (.int .i64 (l.gen : Int))).set (3 + i * 4 + 2) (.slice ad l.slabs.length cap)).set (3 + i * 4 + 3) (.int .i64 (l.fill : Int)) =
      poolV (setLand p i l) ads cs adt ct (upd A i ad) (upd C i cap) := by
  rw [poolV_setLand hl hi]
  unfold poolV
  have hF : ∀ j, ((fun i => landV (landAt p i) (A i) (C i)) j).length = 4 := fun j => rfl
  have e0 := head_set (hd := [.int .i64 (p.size : Int), .slice ads p.bytes.length cs, .slice adt p.taken.length ct]) rfl hF hi (k := 0) (by decide) (.bool l.there)
  rw [Nat.add_zero] at e0
  rw [e0, head_set rfl (fun j => by split <;> rfl) hi (by decide), head_set rfl (fun j => by repeat (first | rfl | split)) hi (by decide), head_set rfl (fun j => by repeat (first | rfl | split)) hi (by decide)]
  congr 1
  refine flat_congr _ fun j hj => ?_
  by_cases e : j = i
  · subst e; simp only [if_true]; rfl
  · simp only [e, if_false]
end
end Go.Proofs.YtlfbelocdpboeaaDoor
/- Layer 1 (region): the pool's small calls walked: land, Size, Make, Idle. -/
namespace Go.Proofs.YtlfbelocdpboeaaDoor
set_option linter.unusedVariables false
set_option linter.unusedSimpArgs false
open Go.RowKit
def makeR (p : PoolF) : Nat × Nat × PoolF := match makeF p with | some i => (i, 0, makeAt p i) | none => (0, 5, p)
theorem taken_get (l : List Bool) (i : Nat) (hi : i < l.length) : (l.map Value.bool)[i]? = some (.bool (l.getD i false)) := by
  simp [hi]
theorem filter_take_succ {l : List Bool} {i : Nat} (hi : i < l.length) : ((l.take (i + 1)).filter (!·)).length = ((l.take i).filter (!·)).length + (if l.getD i false then 0 else 1) := by
  rw [List.take_add_one, List.getElem?_eq_getElem hi, List.filter_append, List.length_append, List.getD_eq_getElem?_getD, List.getElem?_eq_getElem hi]
  cases l[i] <;> rfl
def idleI (p : PoolF) : Int := match idleF p with | some s => (s : Int) | none => -1
theorem idleF_is {p : PoolF} {i : Nat} (hi : i < p.taken.length) (h0 : p.taken.getD i false = false) (h1 : ∀ j, j < i → p.taken.getD j false = true) : idleF p = some i := by
  unfold idleF
  rw [List.find?_range_eq_some]
  exact ⟨by rw [h0]; rfl, by simpa using hi, fun j hj => by rw [h1 j hj]; rfl⟩
theorem idleF_isnone {p : PoolF} (h1 : ∀ j, j < p.taken.length → p.taken.getD j false = true) : idleF p = none := by
  unfold idleF
  rw [List.find?_eq_none]
  intro j hj
  rw [h1 j (by simpa using hj)]; decide
end Go.Proofs.YtlfbelocdpboeaaDoor
/- Layer 1 (region): what a step does to a pool in memory; clear, copy and make of whole blocks. -/
namespace Go.Proofs.YtlfbelocdpboeaaDoor
set_option linter.unusedVariables false
set_option linter.unusedSimpArgs false
open Go.RowKit
section
variable {P : Program}
theorem run_clear_blk {t e ty : TypeId} {z : Value} {bytes : Nat} (E : Elem P t e z 1 bytes) (hz : z.cells = #[z]) (h1 : z.oneCell' = true) (w : World) (b : Nat) (cs : List Value) (hb : Blk w b e cs) (c : Nat) (hn : 0 < cs.length) :
    (Builtin.clear_ #[t] ty #[.slice (some ⟨b, 0, none⟩) cs.length c]).run P w = .ok (.tuple #[]) (w.setRow b (List.replicate cs.length z).toArray) := by
  obtain ⟨ht, hinfo, _, _⟩ := E
  obtain ⟨i, hi, hz0, hsize, hby⟩ := info_parts hinfo
  have hv : ∀ w, (zeroValue e).run P w = .ok z w := fun w => by simp [zeroValue, typeInfo, hi, hz0]
  have hzc : (Builtin.zeroCells z.cells cs.length).toList = List.replicate cs.length z := by
    rw [hz]
    simp [Builtin.zeroCells]
    apply List.ext_getElem
    · simp
    · intro i h1 h2
      simp [Nat.mod_one]
  have hst := run_storeCells_un (P := P) b 0 e (0, 0) (List.replicate cs.length z) 0 cs.toArray w hb (by simp) (by simp) (fun v hv' => by rw [List.eq_of_mem_replicate hv']; exact h1)
  simp only [Nat.add_zero, Nat.zero_add, List.take_zero, List.nil_append, List.length_replicate, List.drop_length, List.append_nil] at hst
  obtain ⟨m, hm⟩ : ∃ m, cs.length = m + 1 := ⟨cs.length - 1, by omega⟩
  rw [hm] at hst hzc ⊢
  simp only [Builtin.clear_]
  simp [run_underlying ht, hv, hzc, hst]
theorem wp_clear {t e : TypeId} {z : Value} {bytes : Nat} (E : Elem P t e z 1 bytes) (hz : z.cells = #[z]) (h1 : z.oneCell' = true) {w : World} {ops : Array Oper} {rest : List Oper} {o : Oper} {a : Act} {Q : Exit → Act → World → Prop} (hgd : o.guard = none) (x : Operand)
    (ho : o.op = .call { callee := .builtin .clear, args := #[x], argTypes := #[t] }) {b c n : Nat} {cs : List Value} (hx : a.eval x = .slice (some ⟨b, 0, none⟩) n c) (hb : Blk w b e cs) (hn : cs.length = n) (h0 : 0 < n)
    (h : ∀ w', Blk w' b e (List.replicate n z) → w.grownBy w' (some b) → wpList P ops Q rest (a.put o.dst (.tuple #[])) w') : wpList P ops Q (o :: rest) a w := by
  subst hn
  refine wpList_plain hgd fun K hK => ?_
  have hr := run_clear_blk (ty := o.type) E hz h1 w b cs hb c h0
  unfold Oper.wp execOp
  simp only [ho, resolve, invoke, builtin, Sem.run_bind, Sem.run_pure, Result.andThen_ok, List.map_toArray, List.map_cons, List.map_nil, hx, hr]
  exact hK _ _ (h _ (hb.setRow _) (grown_setRow _ _ _))
end
section
variable {w w' : World} {S : Nat → Prop} {g : Nat} {p : PoolF} {ads adt : Option Addr} {cs ct : Nat} {A : Nat → Option Addr} {C bd : Nat → Nat}
def setTaken (p : PoolF) (s : Nat) (b : Bool) : PoolF := { p with taken := p.taken.set s b }
def setBytes (p : PoolF) (s : Nat) (b : List UInt8) : PoolF := { p with bytes := p.bytes.set s b }
theorem map_set_bool (l : List Bool) (s : Nat) (b : Bool) : (l.set s b).map Value.bool = (l.map Value.bool).set s (.bool b) := by rw [List.map_set]
theorem bytesAt_set (p : PoolF) (s i : Nat) (b : List UInt8) (hs : s < p.bytes.length) : bytesAt (setBytes p s b) i = if s = i then b else bytesAt p i := by
  unfold bytesAt setBytes
  simp only [List.getD_eq_getElem?_getD, List.getElem?_set]
  by_cases h : s = i
  · subst h; simp [hs]
  · simp [h]
theorem poolV_set1 (hl : p.lands.length = 256) {i k : Nat} (hi : i < 256) (hk : k < 4) (v : Value) (l : Land) (ad : Option Addr) (cap : Nat) (hv : (landV (landAt p i) (A i) (C i)).set k v = landV l ad cap) :
    (poolV p ads cs adt ct A C).set (3 + i * 4 + k) v = poolV (setLand p i l) ads cs adt ct (upd A i ad) (upd C i cap) := by
  rw [poolV_setLand hl hi]
  unfold poolV
  rw [head_set rfl (fun j => rfl) hi hk]
  congr 1
  refine flat_congr _ fun j hj => ?_
  by_cases e : j = i
  · subst e; rw [if_pos rfl, if_pos rfl]; exact hv
  · rw [if_neg e, if_neg e]
theorem upd_id {α : Type} (A : Nat → α) (i : Nat) : upd A i (A i) = A := by
  funext j
  by_cases h : j = i
  · subst h; rw [upd_same]
  · rw [upd_other _ _ h]
end
def hdv (h : Hd) : Value := .agg #[.int .i64 h.region, .int .i64 h.gen, .int .i64 h.off, .int .i64 h.len]
theorem Blk.four {w : World} {g : Nat} {t : TypeId} {a b c d : Value} (h : Blk w g t [a, b, c, d]) : w.cell? ⟨g, 0, none⟩ = some a ∧ w.cell? ⟨g, 1, none⟩ = some b ∧ w.cell? ⟨g, 2, none⟩ = some c ∧ w.cell? ⟨g, 3, none⟩ = some d ∧ w.frozen? ⟨g, 0, none⟩ = false ∧ w.frozen? ⟨g, 1, none⟩ = false ∧ w.frozen? ⟨g, 2, none⟩ = false ∧ w.frozen? ⟨g, 3, none⟩ = false :=
  ⟨h.cell rfl, h.cell rfl, h.cell rfl, h.cell rfl, h.frozen _, h.frozen _, h.frozen _, h.frozen _⟩
theorem iv_get (l : List Nat) (i s : Nat) (h : l[i]? = some s) : (iv l)[i]? = some (.int .i64 (s : Int)) := by simp [iv, h]
theorem slabV_get {bd : Nat → Nat} {size n i : Nat} (h : i < n) : (slabV bd size n)[i]? = some (.slice (some ⟨bd i, 0, none⟩) size size) := by simp [slabV, h]
end Go.Proofs.YtlfbelocdpboeaaDoor
/- Layer 1 (region): Free walked. -/
namespace Go.Proofs.YtlfbelocdpboeaaDoor
set_option linter.unusedVariables false
set_option linter.unusedSimpArgs false
open Go.RowKit
theorem foldl_set_len {α β : Type} (l : List Nat) (x : β) : ∀ (b : List β), (l.foldl (fun bs s => bs.set s x) b).length = b.length := by
  induction l with
  | nil => intro b; rfl
  | cons s t ih => intro b; rw [List.foldl_cons, ih, List.length_set]
theorem freeSlabs_len (p : PoolF) (l : List Nat) : (freeSlabs p l).bytes.length = p.bytes.length ∧ (freeSlabs p l).taken.length = p.taken.length := ⟨foldl_set_len (α := Nat) l _ _, foldl_set_len (α := Nat) l _ _⟩
theorem freeSlabs_snoc (p : PoolF) (l : List Nat) (s : Nat) : freeSlabs p (l ++ [s]) = setTaken (setBytes (freeSlabs p l) s (List.replicate p.size 0xDD)) s false := by
  unfold freeSlabs setTaken setBytes
  simp only [List.foldl_append, List.foldl_cons, List.foldl_nil]
theorem setBytes_twice (p : PoolF) (s : Nat) (a b : List UInt8) : setBytes (setBytes p s a) s b = setBytes p s b := by unfold setBytes; simp only [List.set_set]
theorem poison_step (x : UInt8) (l : List UInt8) (j : Nat) (hj : j < l.length) : (List.replicate j x ++ l.drop j).set j x = List.replicate (j + 1) x ++ l.drop (j + 1) := by
  rw [List.set_append_right _ _ (by simp), List.length_replicate, Nat.sub_self, List.replicate_succ', List.append_assoc]
  congr 1
  rw [List.drop_eq_getElem_cons hj, List.set_cons_zero]
  rfl
theorem bytesAt_foldl_len (sz : Nat) (x : List UInt8) (hx : x.length = sz) : ∀ (l : List Nat) (b : List (List UInt8)), (∀ y ∈ b, y.length = sz) → ∀ y ∈ l.foldl (fun bs s => bs.set s x) b, y.length = sz
  | [], _, h => h
  | s :: t, b, h => by
    rw [List.foldl_cons]
    refine bytesAt_foldl_len sz x hx t _ fun y hy => ?_
    rcases List.mem_or_eq_of_mem_set hy with h1 | h1
    · exact h y h1
    · rw [h1]; exact hx
end Go.Proofs.YtlfbelocdpboeaaDoor
/- Layer 1 (region): a piece of a region, walked. -/
namespace Go.Proofs.YtlfbelocdpboeaaDoor
set_option linter.unusedVariables false
set_option linter.unusedSimpArgs false
open Go.RowKit
theorem pieceF_ok {p : PoolF} {h : Hd} {s k : Nat} (hp : PoolOk p) (e : pieceF p h = ((s, k), 0)) : ∃ i o l : Nat, landF p h.region = some i ∧ i < 256 ∧ h.off = (o : Int) ∧ h.len = (l : Int) ∧ h.region = (i : Int) ∧ h.gen = ((landAt p i).gen : Int) ∧ 1 ≤ l ∧ o + l ≤ (landAt p i).fill ∧
    o / p.size < (landAt p i).slabs.length ∧ (landAt p i).slabs[o / p.size]? = some s ∧ k = o % p.size ∧ k + l ≤ p.size ∧ s < p.bytes.length := by
  unfold pieceF at e
  cases hl : landF p h.region with
  | none => rw [hl] at e; simp at e
  | some i =>
    obtain ⟨e0, hi, hth⟩ := landF_some hl
    have hlk := hp.ld i hi
    have hfl := hlk.fill_le
    have hs1 := hp.s1
    rw [hl] at e
    simp only at e
    split at e
    · simp at e
    · rename_i hg
      split at e
      · simp at e
      · rename_i hb
        split at e
        · simp at e
        · rename_i hf
          simp only [Prod.mk.injEq, and_true] at e
          have ho : h.off = ((h.off.toNat : Nat) : Int) := by omega
          have hln : h.len = ((h.len.toNat : Nat) : Int) := by omega
          have hlt : h.off.toNat / p.size < (landAt p i).slabs.length := by
            rw [Nat.div_lt_iff_lt_mul (by omega)]; omega
          have hsl : (landAt p i).slabs[h.off.toNat / p.size]? = some s := by
            rw [List.getElem?_eq_getElem hlt, ← e.1, List.getD_eq_getElem?_getD, List.getElem?_eq_getElem hlt]; rfl
          refine ⟨i, h.off.toNat, h.len.toNat, rfl, hi, ho, hln, e0, by omega, by omega, by omega, hlt, hsl, e.2.symm, by omega, ?_⟩
          exact hlk.lt s (List.mem_of_getElem? hsl)
end Go.Proofs.YtlfbelocdpboeaaDoor
/- Layer 1 (region): a piece of a region, walked: the other cases. -/
namespace Go.Proofs.YtlfbelocdpboeaaDoor
set_option linter.unusedVariables false
set_option linter.unusedSimpArgs false
open Go.RowKit
def pieceV (bd : Nat → Nat) (p : PoolF) (h : Hd) : Value := match pieceF p h with
  | ((s, k), 0) => .tuple #[.slice (some ⟨bd s, k, none⟩) h.len.toNat (p.size - k), .int .i64 0]
  | (_, e) => .tuple #[.slice none 0 0, .int .i64 (e : Int)]
theorem pieceV_err {bd : Nat → Nat} {p : PoolF} {h : Hd} {x : Nat × Nat} {e : Nat} (hp : pieceF p h = (x, e + 1)) : pieceV bd p h = .tuple #[.slice none 0 0, .int .i64 ((e + 1 : Nat) : Int)] := by unfold pieceV; rw [hp]; rfl
theorem pieceV_ok {bd : Nat → Nat} {p : PoolF} {h : Hd} {s k : Nat} (hp : pieceF p h = ((s, k), 0)) : pieceV bd p h = .tuple #[.slice (some ⟨bd s, k, none⟩) h.len.toNat (p.size - k), .int .i64 0] := by unfold pieceV; rw [hp]; rfl
end Go.Proofs.YtlfbelocdpboeaaDoor
/- Layer 1 (region): Load, Slabs, Raw, Store walked. -/
namespace Go.Proofs.YtlfbelocdpboeaaDoor
set_option linter.unusedVariables false
set_option linter.unusedSimpArgs false
open Go.RowKit
set_option maxRecDepth 100000 in
theorem clone_nil (w : World) : Calls Tryd.prog 34 #[.slice none 0 0] w fun e w' => e = .returned (.slice none 0 0) ∧ w = w' := by
  have HE := fun w' => Lib.run_eql_slice_nil (P := Tryd.prog) w' 26 5 none 0 0 0 0 Tryd.underlying26
  go_enter Tryd.func34, Tryd.ntmps34
  go_wp2
  go_ret
  exact ⟨rfl, rfl⟩
theorem iv_one (l : List Nat) : ∀ v ∈ iv l, v.oneCell' = true := by
  intro v hv
  simp only [iv, List.mem_map] at hv
  obtain ⟨x, _, rfl⟩ := hv
  rfl
theorem iv_length (l : List Nat) : (iv l).length = l.length := by simp [iv]
theorem bytes_part {w : World} {b k n : Nat} {l : List UInt8} (h : Blk w b 5 (bv l)) (hk : k + n ≤ l.length) : Bytes w (some ⟨b, k, none⟩) ((l.drop k).take n) := by
  have hb : Bytes w (some ⟨b, 0, none⟩) l := fun i hi => ⟨b, 0, rfl, by rw [Nat.zero_add]; exact h.cell (bv_get l i hi)⟩
  have := (hb.drop k).take n
  rw [Nat.zero_add] at this
  exact this
theorem bytesAt_len {p : PoolF} (hp : PoolOk p) {s : Nat} (hs : s < p.bytes.length) : (bytesAt p s).length = p.size := by
  unfold bytesAt
  rw [List.getD_eq_getElem?_getD, List.getElem?_eq_getElem hs]
  exact hp.bl _ (List.getElem_mem hs)
theorem loadF_ok {p : PoolF} {h : Hd} {s k : Nat} (e : pieceF p h = ((s, k), 0)) : loadF p h = (((bytesAt p s).drop k).take h.len.toNat, 0) := by unfold loadF; rw [e]; rfl
theorem loadF_err {p : PoolF} {h : Hd} {x : Nat × Nat} {n : Nat} (e : pieceF p h = (x, n + 1)) : loadF p h = ([], n + 1) := by unfold loadF; rw [e]; rfl
theorem storeF_err {p : PoolF} {h : Hd} {x : Nat × Nat} {n : Nat} {a : Int} {b : List UInt8} (e : pieceF p h = (x, n + 1)) : storeF p h a b = (n + 1, p) := by unfold storeF; rw [e]; rfl
theorem storeF_bad {p : PoolF} {h : Hd} {s k : Nat} {a : Int} {b : List UInt8} (e : pieceF p h = ((s, k), 0)) (hb : a < 0 ∨ a > h.len ∨ (b.length : Int) > h.len - a) : storeF p h a b = (1, p) := by
  unfold storeF; rw [e]; simp only; rw [if_pos hb]
theorem storeF_ok {p : PoolF} {h : Hd} {s k : Nat} {a : Int} {b : List UInt8} (e : pieceF p h = ((s, k), 0)) (hb : ¬ (a < 0 ∨ a > h.len ∨ (b.length : Int) > h.len - a)) :
    storeF p h a b = (0, setBytes p s (((bytesAt p s).take (k + a.toNat)) ++ b ++ ((bytesAt p s).drop (k + a.toNat + b.length)))) := by
  unfold storeF; rw [e]; simp only; rw [if_neg hb]; rfl
theorem bv_take (l : List UInt8) (n : Nat) : (bv l).take n = bv (l.take n) := by simp [bv]
theorem bv_drop (l : List UInt8) (n : Nat) : (bv l).drop n = bv (l.drop n) := by simp [bv]
end Go.Proofs.YtlfbelocdpboeaaDoor
namespace Go.Proofs.YtlfbelocdpboeaaDoor
set_option linter.unusedVariables false
set_option linter.unusedSimpArgs false
open Go.RowKit
theorem splice_len {l b : List UInt8} {k : Nat} (h : k + b.length ≤ l.length) : (l.take k ++ b ++ l.drop (k + b.length)).length = l.length := by
  simp only [List.length_append, List.length_take, List.length_drop]; omega
theorem store_ok {p : PoolF} (h : PoolOk p) (hd : Hd) (a : Int) (b : List UInt8) : PoolOk (storeF p hd a b).2 := by
  rcases hpf : pieceF p hd with ⟨⟨s, k⟩, e⟩
  cases e with
  | succ e => rw [storeF_err hpf]; exact h
  | zero =>
    obtain ⟨i, o, l, -, hi, e2, e3, e4, e5, hl1, -, -, -, -, hkl, hs⟩ := pieceF_ok h hpf
    by_cases hb : a < 0 ∨ a > hd.len ∨ (b.length : Int) > hd.len - a
    · rw [storeF_bad hpf hb]; exact h
    · rw [storeF_ok hpf hb]
      refine setB_ok h s _ (fun hs => ?_)
      have hbl := bytesAt_len h hs
      rw [splice_len (by omega), hbl]
theorem foldl_set_bool : ∀ (l : List Nat) (b : List Bool) (t : Nat), (l.foldl (fun t s => t.set s false) b).getD t false = if t ∈ l then false else b.getD t false
  | [], b, t => by simp
  | s :: r, b, t => by
    rw [List.foldl_cons, foldl_set_bool r]
    by_cases h1 : t ∈ r
    · rw [if_pos h1, if_pos (List.mem_cons_of_mem _ h1)]
    · rw [if_neg h1]
      by_cases h2 : t = s
      · subst h2
        rw [if_pos (by simp)]
        simp only [List.getD_eq_getElem?_getD, List.getElem?_set]
        by_cases hl : t < b.length
        · simp [hl]
        · simp [hl]
      · rw [if_neg (by simp [h1, h2])]
        simp only [List.getD_eq_getElem?_getD, List.getElem?_set]
        rw [if_neg (fun e => h2 e.symm)]
theorem foldl_set_get {β : Type} (x d : β) : ∀ (l : List Nat) (b : List β) (t : Nat), t < b.length → (l.foldl (fun t s => t.set s x) b).getD t d = if t ∈ l then x else b.getD t d
  | [], b, t, _ => by simp
  | s :: r, b, t, ht => by
    rw [List.foldl_cons, foldl_set_get x d r _ t (by rw [List.length_set]; exact ht)]
    by_cases h1 : t ∈ r
    · rw [if_pos h1, if_pos (List.mem_cons_of_mem _ h1)]
    · rw [if_neg h1]
      by_cases h2 : t = s
      · subst h2
        rw [if_pos (by simp)]
        simp [List.getD_eq_getElem?_getD, List.getElem?_set, ht]
      · rw [if_neg (by simp [h1, h2])]
        simp only [List.getD_eq_getElem?_getD, List.getElem?_set]
        rw [if_neg (fun e => h2 e.symm)]
theorem landAt_free {p : PoolF} (h : PoolOk p) {i : Nat} (hi : i < 256) (L : List Nat) (l : Land) (j : Nat) : landAt { freeSlabs p L with lands := p.lands.set i l } j = if i = j then l else landAt p j := by
  have := landAt_set p i j l (by rw [h.ln]; exact hi)
  exact this
theorem free_ok {p : PoolF} (h : PoolOk p) (r : Int) : PoolOk (freeF p r).2 := by
  unfold freeF
  cases hl : landF p r with
  | none => exact h
  | some i =>
    obtain ⟨_, hi, hth⟩ := landF_some hl
    simp only
    obtain ⟨L, hL⟩ : ∃ L, L = (landAt p i).slabs := ⟨_, rfl⟩
    rw [← hL]
    have hA := fun j => landAt_free h hi L ⟨false, (landAt p i).gen, [], 0⟩ j
    obtain ⟨q, hq⟩ : ∃ q : PoolF, q = { freeSlabs p L with lands := p.lands.set i ⟨false, (landAt p i).gen, [], 0⟩ } := ⟨_, rfl⟩
    rw [← hq] at hA ⊢
    have hbl : q.bytes.length = p.bytes.length := by rw [hq]; exact (freeSlabs_len p L).1
    have htl : q.taken.length = p.taken.length := by rw [hq]; exact (freeSlabs_len p L).2
    have hsz : q.size = p.size := by rw [hq]; rfl
    have htk : ∀ t, q.taken.getD t false = if t ∈ L then false else p.taken.getD t false := fun t => by rw [hq]; exact foldl_set_bool L p.taken t
    refine ⟨by rw [hsz]; exact h.s1, by rw [hsz]; exact h.s2, by rw [hsz]; exact h.s3, by rw [hbl]; exact h.n1, by rw [hbl]; exact h.n2, fun b hb => ?_, by rw [hbl, htl]; exact h.tk, ?_, fun j hj => ?_, fun t ht => ?_, fun j k t hj hk m1 m2 => ?_⟩
    · rw [hsz]
      rw [hq] at hb
      exact bytesAt_foldl_len p.size _ (by simp) L p.bytes h.bl b hb
    · rw [hq]; show (p.lands.set i _).length = 256; rw [List.length_set]; exact h.ln
    · rw [hA]
      split
      · exact ⟨by simp, by simp, .inl ⟨rfl, rfl⟩, fun _ => rfl⟩
      · have := h.ld j hj
        exact ⟨this.nodup, fun t ht => by rw [hbl]; exact this.lt t ht, by rw [hsz]; exact this.fill, this.away⟩
    · rw [hbl] at ht
      rw [htk]
      by_cases hm : t ∈ L
      · rw [if_pos hm]
        refine ⟨fun e => by simp at e, fun ⟨j, hj, hjm⟩ => ?_⟩
        rw [hA] at hjm
        split at hjm
        · simp at hjm
        · rename_i hne
          rw [hL] at hm
          exact absurd (h.apart i j t hi hj hm hjm) hne
      · rw [if_neg hm, h.has t ht]
        constructor
        · rintro ⟨j, hj, hjm⟩
          refine ⟨j, hj, ?_⟩
          rw [hA, if_neg (fun e => hm (by rw [hL, e]; exact hjm))]
          exact hjm
        · rintro ⟨j, hj, hjm⟩
          rw [hA] at hjm
          split at hjm
          · simp at hjm
          · exact ⟨j, hj, hjm⟩
    · rw [hA] at m1 m2
      split at m1
      · simp at m1
      · split at m2
        · simp at m2
        · exact h.apart j k t hj hk m1 m2
end Go.Proofs.YtlfbelocdpboeaaDoor
