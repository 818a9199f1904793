/- Layer 1 (region): pieces: what each holds, whatever is done to others. No walk here. -/
import Derived.Test.YtlfbelocdpboeaaGreatDoorBunB2
import Derived.Test.YtlfbelocdpboeaaGreatDoorBunB3
import Derived.Test.YtlfbelocdpboeaaGreatDoorRows
import Derived.Test.YtlfbelocdpboeaaGreatDoorBunB0
import Derived.Test.YtlfbelocdpboeaaGreatDoorBunB1
import Derived.Lib.SliceRun
/- Layer 6 (bloom): the reference's bits, as bytes. -/
namespace Go.Proofs.YtlfbelocdpboeaaGreatDoor
set_option linter.unusedVariables false
set_option linter.unusedSimpArgs false
open Go.RowKit Bloom
theorem elemBool : Elem Tryz.prog 127 4 (.bool false) 1 1 := ⟨by kernel_rfl, by kernel_rfl, rfl, by decide⟩
def rowB (on : Nat → Bool) (b : Nat) : List Value := (List.range b).map fun p => .bool (on p)
theorem rowB_len (on : Nat → Bool) (b : Nat) : (rowB on b).length = b := by simp [rowB]
theorem rowB_get (on : Nat → Bool) (b p : Nat) (h : p < b) : (rowB on b)[p]? = some (.bool (on p)) := by simp [rowB, h]
theorem rowB_set (on : Nat → Bool) (b p : Nat) (h : p < b) : (rowB on b).set p (.bool true) = rowB (addB on p) b := by
  apply List.ext_getElem?
  intro i
  rw [List.getElem?_set]
  by_cases e : p = i
  · subst e
    rw [if_pos rfl, if_pos (by rw [rowB_len]; exact h), rowB_get _ _ _ h]
    simp [addB]
  · rw [if_neg e]
    by_cases hi : i < b
    · rw [rowB_get _ _ _ hi, rowB_get _ _ _ hi]
      unfold addB
      have : (i == p) = false := by rw [beq_eq_false_iff_ne]; exact fun k => e k.symm
      simp [this]
    · rw [List.getElem?_eq_none (by rw [rowB_len]; omega), List.getElem?_eq_none (by rw [rowB_len]; omega)]
theorem rowB_none (b : Nat) : List.replicate b (Value.bool false) = rowB (fun _ => false) b := by
  apply List.ext_getElem?
  intro i
  by_cases hi : i < b
  · rw [rowB_get _ _ _ hi]; simp [hi]
  · rw [List.getElem?_eq_none (by simp; omega), List.getElem?_eq_none (by rw [rowB_len]; omega)]
/-- the bits below a place -/
def belowB (on : Nat → Bool) (i : Nat) : Nat → Bool := fun p => on p && decide (p < i)
theorem below_off {on : Nat → Bool} {i : Nat} (h : on i = false) : belowB on (i + 1) = belowB on i := by
  funext p
  unfold belowB
  by_cases e : p = i
  · subst e; simp [h]
  · have : (p < i + 1) ↔ p < i := by omega
    simp [this]
theorem below_on {on : Nat → Bool} {i : Nat} (h : on i = true) : belowB on (i + 1) = addB (belowB on i) i := by
  funext p
  unfold belowB addB
  by_cases e : p = i
  · subst e; simp [h]
  · have : (p < i + 1) ↔ p < i := by omega
    have e2 : (p == i) = false := by rw [beq_eq_false_iff_ne]; exact e
    simp [this, e2]
theorem below_zero (on : Nat → Bool) : belowB on 0 = fun _ => false := by funext p; simp [belowB]
theorem below_all (on : Nat → Bool) (n : Nat) : rowF (belowB on (8 * n)) n = rowF on n := row_congr fun p hp => by simp [belowB, hp]
theorem below_byte (on : Nat → Bool) (i : Nat) : byteN (belowB on i) (i / 8) 8 + 2 ^ (i % 8) = byteN (belowB on i) (i / 8) 8 ||| 2 ^ (i % 8) ∧ byteN (belowB on i) (i / 8) 8 < 2 ^ (i % 8) := by
  have h1 : byteN (belowB on i) (i / 8) 8 = byteN (belowB on i) (i / 8) (i % 8) := byteN_cut (by omega) (fun r h1 h2 => by
    unfold belowB
    have : ¬ 8 * (i / 8) + r < i := by omega
    simp [this])
  have h2 := byteN_lt (belowB on i) (i / 8) (i % 8)
  rw [h1]
  refine ⟨?_, h2⟩
  apply Nat.eq_of_testBit_eq
  intro r
  rw [Nat.testBit_or, Nat.testBit_two_pow]
  have e : byteN (belowB on i) (i / 8) (i % 8) + 2 ^ (i % 8) = 2 ^ (i % 8) * 1 + byteN (belowB on i) (i / 8) (i % 8) := by omega
  rw [e, Nat.testBit_two_pow_mul_add _ h2]
  by_cases h3 : r < i % 8
  · have : ¬ i % 8 = r := by omega
    simp [h3, this]
  · rw [if_neg h3]
    have hz : (byteN (belowB on i) (i / 8) (i % 8)).testBit r = false := Nat.testBit_lt_two_pow (Nat.lt_of_lt_of_le h2 (Nat.pow_le_pow_right (by decide) (by omega)))
    rw [hz, Bool.false_or, Bool.eq_iff_iff, decide_eq_true_iff, Nat.testBit_one_eq_true_iff_self_eq_zero]
    omega
set_option maxRecDepth 100000 in
set_option maxHeartbeats 1000000 in
theorem rbytes_any (ad : Option Addr) (cap n : Nat) (on : Nat → Bool) (w : World) (hn : n ≤ 1000000) (hr : Row w ad (rowB on (8 * n))) :
    Calls Tryz.prog 79 #[.slice ad (8 * n) cap] w (RetB 5 w (rowF on n)) := by
  have hm1 : n ≤ maxLen := by unfold maxLen; omega
  have hm2 : 1 * n ≤ 281474976710656 := by omega
  go_enter Tryz.func79, Tryz.ntmps79
  go_wp2_with (at_make; go_must (refine wp_make elemB rfl rfl _ _ rfl n n rfl rfl (by omega) (by omega) (Nat.le_refl n) hm1 hm2 ?_); intro w1 o1 g1 z1)
  have hL : ∀ wr, Gr w1 wr → Row wr ad (rowB on (8 * n)) := fun wr g => hr.gr (g1.trans g)
  have HR := Lib.hid hr
  have o2 := o1
  rw [bv_replicate, zero_row, ← below_zero on] at o2
  clear o1 z1 hr hL
  have hne : ∀ k, k < w.heap.size → k ≠ w.heap.size := fun k h => by omega
  go_loopw [4] (fun i wr => ∃ j : Nat, j ≤ 8 * n ∧ i = .int .i64 (j : Int) ∧ Owns wr w.heap.size 5 1 (some ⟨w.heap.size, 0, none⟩) n n (bv (rowF (belowB on j) n)) ∧ Gr w wr) (fun i _ => 8 * n - (intOf i).toNat)
  case atStart => exact ⟨0, Nat.zero_le _, rfl, o2, g1⟩
  case round =>
    obtain ⟨j, hj, rfl, ho, hg⟩ := hrel
    by_cases hlt : j < 8 * n
    · obtain ⟨b0, off, rfl, hcw⟩ := HR.out j _ (rowB_get on (8 * n) j hlt)
      have hc := hg.cell hcw
      clear hcw
      cases hon : on j with
      | false =>
        rw [hon] at hc
        have HB := Lib.hid (below_off hon)
        clear hon
        go_wp2
        go_roundw
        case rel => exact ⟨j + 1, by omega, by go_num, by rw [HB.out]; exact ho, hg⟩
        case measure => simp [intOf]; omega
      | true =>
        rw [hon] at hc
        have HB := Lib.hid (below_on hon)
        clear hon
        have hq : j / 8 < n := by omega
        obtain ⟨_, e0, _, hcb⟩ := ho.at (bv_get (rowF (belowB on j) n) (j / 8) (by rw [rowF_len]; exact hq))
        cases e0
        rw [rowF_get] at hcb
        have hf := ho.unfrozen (i := j / 8) rfl (by omega)
        have hbb := below_byte on j
        have hpow : 2 ^ (j % 8) < 256 := Nat.pow_lt_pow_right (by decide) (show j % 8 < 8 by omega)
        have hyn : (UInt8.ofNat (byteN (belowB on j) (j / 8) 8 + 2 ^ (j % 8))).toNat = byteN (belowB on j) (j / 8) 8 ||| 2 ^ (j % 8) := by
          have h3 : byteN (belowB on j) (j / 8) 8 + 2 ^ (j % 8) < 256 := by
            rw [hbb.1]
            exact Nat.or_lt_two_pow (n := 8) (byteN_lt _ _ 8) hpow
          rw [UInt8.toNat_ofNat', Nat.mod_eq_of_lt h3, hbb.1]
        have hrs := row_set (belowB on j) n j hq _ hyn
        have ho2 := ho.store rfl hq (.int .u8 ((UInt8.ofNat (byteN (belowB on j) (j / 8) 8 + 2 ^ (j % 8))).toNat : Int))
        rw [bv_set, hrs, ← HB.out] at ho2
        have hval : ((byteF (belowB on j) (j / 8)).toNat : Int) + 2 ^ (j % 8) = ((UInt8.ofNat (byteN (belowB on j) (j / 8) 8 + 2 ^ (j % 8))).toNat : Int) := by
          rw [hyn, ← hbb.1, byteF_nat]; simp
        have hvlt := (UInt8.ofNat (byteN (belowB on j) (j / 8) 8 + 2 ^ (j % 8))).toNat_lt
        generalize UInt8.ofNat (byteN (belowB on j) (j / 8) 8 + 2 ^ (j % 8)) = y at *
        generalize byteF (belowB on j) (j / 8) = z at *
        have e1 : (j : Int).tdiv 8 = (j : Int) / 8 := Int.tdiv_eq_ediv_of_nonneg (by omega)
        have e2 : IntKind.i64.wrap ((j : Int) / 8) = (j : Int) / 8 := IntWalk.i64_in _ ⟨by omega, by omega⟩
        have e3 : ((j : Int) / 8).toNat = j / 8 := by omega
        have e4 : (j : Int).tmod 8 = (j : Int) % 8 := Int.tmod_eq_emod_of_nonneg (by omega)
        have e5 : IntKind.i64.wrap ((j : Int) % 8) = (j : Int) % 8 := IntWalk.i64_in _ ⟨by omega, by omega⟩
        have e6 : ((j : Int) % 8).toNat = j % 8 := by omega
        have b1 : 0 ≤ (j : Int) / 8 := by omega
        have b2 : (j : Int) / 8 < (n : Int) := by omega
        have b3 : 0 ≤ (j : Int) % 8 := by omega
        have HE := Lib.hid e1; have E2 := Lib.hid e2; have E3 := Lib.hid e3; have E4 := Lib.hid e4; have E5 := Lib.hid e5; have E6 := Lib.hid e6
        have HV := Lib.hid hval; have HP := Lib.hid hpow
        clear e1 e2 e3 e4 e5 e6 hbb hyn hrs hval hpow
        go_wp2
        have e1 := HE.out; have e2 := E2.out; have e3 := E3.out; have e4 := E4.out; have e5 := E5.out; have e6 := E6.out
        go_still_tail 13, (by kernel_rfl)
        clear e1 e2 e3 e4 e5 e6
        go_wp2
        go_roundw
        case rel =>
          have hv : ((z.toNat : Int) + 2 ^ (j % 8)) % 256 = (y.toNat : Int) := by
            rw [HV.out]
            have : y.toNat < 256 := y.toNat_lt
            omega
          rw [hv]
          exact ⟨j + 1, by omega, by go_num, ho2.gr (Gr.drew _), (hg.setCell (Nat.le_refl _) _).trans (Gr.drew _)⟩
        case measure => simp [intOf]; omega
    · obtain rfl : j = 8 * n := by omega
      rw [below_all] at ho
      have hl := rowF_len on n
      go_wp2
      go_ret
      exact ⟨_, n, by rw [hl]; rfl, by rw [hl]; exact ho, hg⟩
set_option maxRecDepth 100000 in
set_option maxHeartbeats 2000000 in
theorem rDocBuild_any (ad : Option Addr) (cap : Nat) (keys : List (List UInt8)) (bits : Int) (w : World) (hm : keys.length ≤ 100000) (hr : Row w ad (sv keys)) (hsh : Short keys) (h1 : -9223372036854775808 ≤ bits) (h2 : bits ≤ 9223372036854775807) :
    Calls Tryz.prog 47 #[.slice ad keys.length cap, .int .i64 bits] w fun e w' => e = .returned (.tuple #[.string (str (buildF keys bits).1), .int .i64 ((buildF keys bits).2 : Nat)]) ∧ Gr w w' := by
  by_cases hb : bits < 1 ∨ 64 < bits
  · have H := Lib.hid (show buildF keys bits = ([], 1) by unfold buildF; rw [if_pos hb])
    rcases hb with hb | hb
    all_goals
      go_enter Tryz.func47, Tryz.ntmps47
      go_wp2
      go_ret2
      exact ⟨by rw [H.out]; rfl, Gr.refl _⟩
  · obtain ⟨b, rfl⟩ := Int.eq_ofNat_of_zero_le (show 0 ≤ bits by omega)
    have hb1 : 1 ≤ b := by omega
    have hb2 : b ≤ 64 := by omega
    clear h1 h2
    rw [build_good hb1 hb2 hm]
    clear hb
    have hprod : keys.length * b ≤ 100000 * 64 := Nat.mul_le_mul hm hb2
    have hp0 : 0 ≤ (keys.length : Int) * (b : Int) := Int.mul_nonneg (by omega) (by omega)
    have hp1 : (keys.length : Int) * (b : Int) ≤ 6400000 := by have h3 : ((keys.length * b : Nat) : Int) ≤ 6400000 := (by omega); rw [Int.natCast_mul] at h3; exact h3
    have hN : ((nF keys.length b : Nat) : Int) = (max ((keys.length : Int) * (b : Int)) 64 + 7) / 8 := by
      unfold nF
      have h3 : ((keys.length * b : Nat) : Int) = (keys.length : Int) * (b : Int) := Int.natCast_mul _ _
      omega
    have hn8 : 8 ≤ nF keys.length b := by unfold nF; omega
    have hn9 : nF keys.length b ≤ 800001 := by unfold nF; omega
    have hK : ((kF b : Nat) : Int) = min (max ((b : Int) * 69 / 100) 1) 30 := by unfold kF; omega
    have hk1 : 1 ≤ kF b := by unfold kF; omega
    have hk2 : kF b ≤ 30 := by unfold kF; omega
    have HF := Lib.hid (show filterF keys b = rowF (onF keys (8 * nF keys.length b) (kF b)) (nF keys.length b) ++ [UInt8.ofNat (kF b)] from rfl)
    generalize nF keys.length b = n at *
    generalize kF b = k at *
    have HN := Lib.hid hN; have HK := Lib.hid hK; clear hN hK
    go_enter Tryz.func47, Tryz.ntmps47
    go_wp2
    rw [← HK.out]
    go_loop [7] (fun v => ∃ c : Nat, v = .int .i64 (c : Int) ∧ c ≤ 8 * n ∧ 8 * n < c + 8) (fun v => 8 * n - (intOf v).toNat)
    case atStart => exact ⟨(max ((keys.length : Int) * (b : Int)) 64).toNat, by congr 1; omega, by have := HN.out; omega, by have := HN.out; omega⟩
    case round =>
      obtain ⟨c, rfl, hc1, hc2⟩ := hrel
      by_cases hcm : c % 8 = 0
      · have hcn : c = 8 * n := by omega
        have bz : ((c : Int) % 8 != 0) = false := by rw [bne_eq_false_iff_eq]; omega
        have HC := Lib.hid hcn; clear hcn hcm
        have hm1 : c ≤ maxLen := by unfold maxLen; omega
        have hm2 : 1 * c ≤ 281474976710656 := by omega
        go_wp2_with (at_make; go_must (refine wp_make elemBool rfl rfl _ _ rfl c c rfl rfl rfl rfl (Nat.le_refl c) hm1 hm2 ?_); intro w1 o1 g1 z1)
        have o2 : Owns w1 w.heap.size 4 1 (some ⟨w.heap.size, 0, none⟩) c c (rowB (onF (keys.take 0) c k) c) := by
          rw [rowB_none] at o1; exact o1
        clear o1 z1 bz
        have hk5 : k ≤ 255 := by omega
        have hc32 : c < 4294967296 := by omega
        have hc0 : 0 < c := by omega
        go_loopw [9, 10, 11] (fun i _ _ wr => ∃ t : Nat, t ≤ keys.length ∧ i = .int .i64 (t : Int) ∧ Owns wr w.heap.size 4 1 (some ⟨w.heap.size, 0, none⟩) c c (rowB (onF (keys.take t) c k) c) ∧ Gr w wr) (fun i _ _ _ => keys.length - (intOf i).toNat)
        case atStart => exact ⟨0, Nat.zero_le _, rfl, o2, g1⟩
        case round =>
          obtain ⟨t, ht, rfl, ho, hg⟩ := hrel
          by_cases hlt : t < keys.length
          · obtain ⟨bb, off, rfl, hcell⟩ := (hr.gr hg) t _ (sv_get keys t hlt)
            have HP := Lib.hid (rProbes_any keys[t] c k wr (hsh.at_ t hlt) hc0 hc32 hk5)
            have HON := Lib.hid (show onF (keys.take (t + 1)) c k = fun p => onF (keys.take t) c k p || probesF (hashF keys[t]) c k p by funext p; rw [onF_take keys t hlt])
            generalize hashF keys[t] = h at *
            generalize onF (keys.take t) c k = on at *
            have hws := hg.size
            have howlt : w.heap.size < wr.heap.size := (ho.lt _ rfl).2
            go_wp2_with (go_at_call 78; refine HP.out.mono ?_; rintro e w2 ⟨ad2, cap2, rfl, oP, g2⟩)
            obtain ⟨wo, rfl⟩ : ∃ wo : World, wo = w2 := ⟨_, rfl⟩
            have hne : ∀ a, ad2 = some a → some a.block ≠ some w.heap.size := fun a ha e => by
              have h3 := (oP.lt a ha).1
              have h4 : a.block = w.heap.size := Option.some.inj e
              omega
            have HNE := Lib.hid hne; clear hne
            go_loopw [11] (fun jj wi => ∃ u : Nat, u ≤ k ∧ jj = .int .i64 (u : Int) ∧ Owns wi w.heap.size 4 1 (some ⟨w.heap.size, 0, none⟩) c c (rowB (fun p => on p || probesF h c u p) c) ∧ Owns wi wr.heap.size 3 1 ad2 cap2 k (nv (probesL h c k)) ∧ Gr w wi) (fun jj _ => k - (intOf jj).toNat)
            case atStart => exact ⟨0, Nat.zero_le _, rfl, by simp only [probesF_zero, Bool.or_false]; exact ho.gr g2, oP, hg.trans g2⟩
            case round =>
              obtain ⟨u, hu, rfl, hoi, hPi, hgi⟩ := hrel
              by_cases hul : u < k
              · have hp : bitAt h c u < c := Nat.mod_lt _ hc0
                obtain ⟨gp, e0, _, hcp⟩ := hPi.at (nv_get (probesL h c k) u (by rw [probesL_len]; exact hul))
                subst e0
                rw [probesL_get] at hcp
                obtain ⟨_, e1, _, hcb⟩ := hoi.at (rowB_get (fun p => on p || probesF h c u p) c (bitAt h c u) hp)
                cases e1
                have hf := hoi.unfrozen (i := bitAt h c u) rfl (by omega)
                have ho3 := hoi.store rfl hp (.bool true)
                rw [rowB_set _ _ _ hp] at ho3
                have hP3 := hPi.grown (grown_set _ w.heap.size (bitAt h c u) (.bool true)) HNE.out
                have HS := Lib.hid (show (fun p => on p || probesF h c (u + 1) p) = addB (fun p => on p || probesF h c u p) (bitAt h c u) by
                  funext p
                  unfold addB
                  rw [probesF_succ, Bool.or_assoc])
                generalize bitAt h c u = p at *
                go_wp2
                go_roundw
                case rel => exact ⟨u + 1, by omega, by go_num, by rw [HS.out]; exact ho3, hP3, hgi.setCell (Nat.le_refl _) _⟩
                case measure => simp [intOf]; omega
              · obtain rfl : u = k := by omega
                go_wp2
                go_roundw
                case rel => exact ⟨t + 1, by omega, by go_num, by rw [HON.out]; exact hoi, hgi⟩
                case measure => simp [intOf]; omega
          · obtain rfl : t = keys.length := by omega
            rw [List.take_length] at ho
            have hrow := ho.row
            have HB : Calls Tryz.prog 79 #[.slice (some ⟨w.heap.size, 0, none⟩) c c] wr (RetB 5 wr (rowF (onF keys (8 * n) k) n)) := by
              rw [HC.out] at hrow ⊢
              exact rbytes_any _ _ n _ wr (by omega) hrow
            have HB2 := Lib.hid HB
            have hrl := rowF_len (onF keys (8 * n) k) n
            generalize rowF (onF keys (8 * n) k) n = R at *
            have HRL := Lib.hid hrl
            have hR1 : R.length + 1 ≤ maxLen := by unfold maxLen; omega
            have hR2 : (R.length + 1) * 1 ≤ 140737488355328 := by omega
            clear HB hrl hrow
            have HX2 := Lib.hid (show (k : Int) = ((UInt8.ofNat k).toNat : Int) by rw [UInt8.toNat_ofNat']; omega)
            go_wp2_with (first
              | (go_at_call 79; refine HB2.out.mono ?_; rintro e w3 ⟨ad3, cap3, rfl, o3, g3⟩)
              | (at_builtin; go_must (refine wp_append elemB rfl _ _ rfl rfl (o3.gr (Gr.alloc _ _)) rfl (Src.one _ _ (UInt8.ofNat k) HX2.out Tryz.underlying27) hR1 hR2 (by have := g3.size; simp; omega) ?_); intro ad4 cap4 w4 o4 k4 f4; have o5 : Owns w4 wr.heap.size 5 1 ad4 cap4 (R.length + 1) (bv (R ++ [UInt8.ofNat k])) := (by rw [bv_append]; exact o4); have hst := run_string (P := Tryz.prog) Tryz.underlying27 Tryz.underlying5 Tryz.underlying9 (cap := cap4) (len := R.length + 1) (by simp) o5.bytes))
            go_ret2
            exact ⟨by rw [HF.out]; rfl, hg.trans (g3.app o3 (Nat.le_refl _) k4)⟩
      · have bz : ((c : Int) % 8 != 0) = true := by rw [bne_iff_ne]; omega
        go_wp2
        go_round
        case rel => exact ⟨c + 1, by go_num, by omega, by omega⟩
        case measure => simp [intOf]; omega
end Go.Proofs.YtlfbelocdpboeaaGreatDoor
/- The plain law of layer 4 (crc): the register's step as a linear map of 32 bits, what bytes do to it, what a join does. No program is in sight here. -/
namespace Go.Proofs.YtlfbelocdpboeaaGreatDoor.Crc
set_option linter.unusedVariables false
set_option linter.unusedSimpArgs false

/-- one bit down -/
def stepF (r : BitVec 32) : BitVec 32 := (r >>> 1) ^^^ (-(r &&& 1#32) &&& 0x82F63B78#32)
def iterF : Nat → BitVec 32 → BitVec 32
  | 0, r => r
  | n + 1, r => iterF n (stepF r)
def byteF (r : BitVec 32) (x : UInt8) : BitVec 32 := iterF 8 (r ^^^ BitVec.ofNat 32 x.toNat)
def foldF (r : BitVec 32) (l : List UInt8) : BitVec 32 := l.foldl byteF r
def moreF (s : BitVec 32) (l : List UInt8) : BitVec 32 := ~~~ (foldF (~~~ s) l)
def sumF (l : List UInt8) : BitVec 32 := moreF 0#32 l
/-- the reference's bit -/
def bitF (r b : BitVec 32) : BitVec 32 := if (r ^^^ b).toNat % 2 = 1 then (r >>> 1) ^^^ 0x82F63B78#32 else r >>> 1
/-- bits of a word, the lowest first -/
def bitsF : Nat → BitVec 32 → BitVec 32 → BitVec 32
  | 0, r, _ => r
  | n + 1, r, x => bitsF n (bitF r (x &&& 1#32)) (x >>> 1)

theorem neg_one_and (c : BitVec 32) : -(1#32) &&& c = c := by
  have : -(1#32) = BitVec.allOnes 32 := by decide
  rw [this, BitVec.allOnes_and]
theorem low_cases (r : BitVec 32) : r &&& 1#32 = 0#32 ∨ r &&& 1#32 = 1#32 := by
  have h : (r &&& 1#32).toNat = r.toNat % 2 := by
    rw [BitVec.toNat_and]; exact Nat.and_two_pow_sub_one_eq_mod _ 1
  rcases Nat.mod_two_eq_zero_or_one r.toNat with h2 | h2
  · left; apply BitVec.eq_of_toNat_eq; rw [h, h2]; rfl
  · right; apply BitVec.eq_of_toNat_eq; rw [h, h2]; rfl
theorem low_xor (a b : BitVec 32) : (a ^^^ b) &&& 1#32 = (a &&& 1#32) ^^^ (b &&& 1#32) := by
  ext i hi; simp [Bool.and_xor_distrib_right]
theorem stepF_xor (a b : BitVec 32) : stepF (a ^^^ b) = stepF a ^^^ stepF b := by
  have hs : (a ^^^ b) >>> 1 = a >>> 1 ^^^ b >>> 1 := by ext i hi; simp
  have hm : -((a ^^^ b) &&& 1#32) &&& 0x82F63B78#32 = (-(a &&& 1#32) &&& 0x82F63B78#32) ^^^ (-(b &&& 1#32) &&& 0x82F63B78#32) := by
    rw [low_xor]
    rcases low_cases a with ha | ha <;> rcases low_cases b with hb | hb <;> rw [ha, hb] <;> decide
  unfold stepF
  rw [hs, hm]
  ac_rfl
theorem stepF_zero : stepF 0#32 = 0#32 := by decide
theorem iterF_xor (n : Nat) : ∀ a b, iterF n (a ^^^ b) = iterF n a ^^^ iterF n b := by
  induction n with
  | zero => intro a b; rfl
  | succ n ih => intro a b; simp only [iterF, stepF_xor, ih]
theorem iterF_zero (n : Nat) : iterF n 0#32 = 0#32 := by
  induction n with
  | zero => rfl
  | succ n ih => simp only [iterF, stepF_zero, ih]
theorem iterF_add (m n : Nat) : ∀ r, iterF (m + n) r = iterF n (iterF m r) := by
  induction m with
  | zero => intro r; simp [iterF]
  | succ m ih => intro r; rw [Nat.succ_add]; simp only [iterF, ih]
theorem iterF_succ' (n : Nat) (r : BitVec 32) : iterF (n + 1) r = stepF (iterF n r) := by
  rw [iterF_add n 1]; rfl

theorem xor_low (x : BitVec 32) : (x ^^^ (x &&& 1#32)) &&& 1#32 = 0#32 := by
  rw [low_xor]
  rcases low_cases x with h | h <;> rw [h] <;> decide
/-- a word whose lowest bit is off is only moved -/
theorem stepF_even {x : BitVec 32} (h : x &&& 1#32 = 0#32) : stepF x = x >>> 1 := by
  unfold stepF; rw [h]; simp
theorem bitF_eq (r b : BitVec 32) (hb : b = 0#32 ∨ b = 1#32) : bitF r b = stepF (r ^^^ b) := by
  have hlow : (r ^^^ b).toNat % 2 = ((r ^^^ b) &&& 1#32).toNat := by
    rw [BitVec.toNat_and]; exact (Nat.and_two_pow_sub_one_eq_mod _ 1).symm
  have hsh : (r ^^^ b) >>> 1 = r >>> 1 := by
    rcases hb with rfl | rfl
    · simp
    · ext i hi
      have : (1#32).getLsbD (1 + i) = false := by
        simp
      simp [this]
  unfold bitF stepF
  rw [hlow, hsh]
  rcases low_cases (r ^^^ b) with h | h <;> rw [h]
  · simp
  · rw [neg_one_and]; simp
theorem bitsF_iter (n : Nat) : ∀ r x : BitVec 32, x >>> n = 0#32 → bitsF n r x = iterF n (r ^^^ x) := by
  induction n with
  | zero => intro r x h; have : x = 0#32 := by simpa using h
            subst this; simp [bitsF, iterF]
  | succ n ih =>
    intro r x h
    have hx : x >>> 1 >>> n = 0#32 := by rw [← BitVec.shiftRight_add, Nat.add_comm]; exact h
    simp only [bitsF, iterF]
    rw [ih _ _ hx, bitF_eq _ _ (low_cases x)]
    congr 1
    have hsplit : r ^^^ x = (r ^^^ (x &&& 1#32)) ^^^ (x ^^^ (x &&& 1#32)) := by
      rw [BitVec.xor_assoc, BitVec.xor_comm x (x &&& 1#32), ← BitVec.xor_assoc (x &&& 1#32), BitVec.xor_self, BitVec.zero_xor]
    rw [hsplit, stepF_xor (r ^^^ _) (x ^^^ _), stepF_even (xor_low x)]
    congr 1
    ext i hi
    simp
theorem bitsF_snoc (n : Nat) : ∀ r x, bitsF (n + 1) r x = bitF (bitsF n r x) ((x >>> n) &&& 1#32) := by
  induction n with
  | zero => intro r x; simp [bitsF]
  | succ n ih =>
    intro r x
    rw [show bitsF (n + 1 + 1) r x = bitsF (n + 1) (bitF r (x &&& 1#32)) (x >>> 1) from rfl, ih, ← BitVec.shiftRight_add, Nat.add_comm 1 n]
    rfl
theorem byte_shr (x : UInt8) : BitVec.ofNat 32 x.toNat >>> 8 = 0#32 := by
  apply BitVec.eq_of_toNat_eq
  have := x.toNat_lt
  rw [BitVec.toNat_ushiftRight, BitVec.toNat_ofNat, Nat.shiftRight_eq_div_pow]
  simp; omega
/-- the reference's eight bits of a byte are the program's eight steps -/
theorem bitsF_byte (r : BitVec 32) (x : UInt8) : bitsF 8 r (BitVec.ofNat 32 x.toNat) = byteF r x := bitsF_iter 8 _ _ (byte_shr x)

theorem foldF_append (r : BitVec 32) (l m : List UInt8) : foldF r (l ++ m) = foldF (foldF r l) m := List.foldl_append
theorem foldF_snoc (r : BitVec 32) (l : List UInt8) (x : UInt8) : foldF r (l ++ [x]) = byteF (foldF r l) x := by
  rw [foldF_append]; rfl
theorem moreF_append (s : BitVec 32) (l m : List UInt8) : moreF s (l ++ m) = moreF (moreF s l) m := by
  unfold moreF; rw [foldF_append, BitVec.not_not]

/-- a sum as it is written, and back -/
def maskF (x : BitVec 32) : BitVec 32 := (x <<< 17 ||| x >>> 15) + 2726488792#32
def unmaskF (m : BitVec 32) : BitVec 32 := (m - 2726488792#32) <<< 15 ||| (m - 2726488792#32) >>> 17
theorem join_nat (i x y : Nat) (hx : x % 2 ^ i = 0) (hy : y < 2 ^ i) : x ||| y = x + y := by
  obtain ⟨q, rfl⟩ : ∃ q, x = 2 ^ i * q := ⟨x / 2 ^ i, by have := Nat.div_add_mod x (2 ^ i); omega⟩
  exact (Nat.two_pow_add_eq_or_of_lt hy q).symm
theorem rot_nat (y : BitVec 32) (i j : Nat) (hij : i + j = 32) : (y <<< i ||| y >>> j).toNat = y.toNat * 2 ^ i % 4294967296 + y.toNat / 2 ^ j := by
  have hy := y.isLt
  rw [BitVec.toNat_or, BitVec.toNat_shiftLeft, BitVec.toNat_ushiftRight, Nat.shiftLeft_eq, Nat.shiftRight_eq_div_pow]
  refine join_nat i _ _ ?_ ?_
  · rw [show (2 : Nat) ^ 32 = 2 ^ i * 2 ^ j from by rw [← Nat.pow_add, hij]]
    rw [Nat.mul_comm, Nat.mul_mod_mul_left]
    exact Nat.mul_mod_right _ _
  · rw [Nat.div_lt_iff_lt_mul (Nat.two_pow_pos _), ← Nat.pow_add, hij]; exact hy
theorem maskF_nat (x : BitVec 32) : (maskF x).toNat = (x.toNat % 32768 * 131072 + x.toNat / 32768 + 2726488792) % 4294967296 := by
  unfold maskF
  rw [BitVec.toNat_add, rot_nat x 17 15 rfl]
  simp only [BitVec.toNat_ofNat]
  have := x.isLt
  omega
theorem unmaskF_nat (x : BitVec 32) : (unmaskF x).toNat = (x.toNat + 1568478504) % 4294967296 % 131072 * 32768 + (x.toNat + 1568478504) % 4294967296 / 131072 := by
  have h : (x - 2726488792#32).toNat = (x.toNat + 1568478504) % 4294967296 := by
    rw [BitVec.toNat_sub]; simp only [BitVec.toNat_ofNat]; have := x.isLt; omega
  unfold unmaskF
  rw [rot_nat _ 15 17 rfl, h]
  omega
theorem mask_core (q r : Nat) (hr : r < 32768) (hq : q < 131072) : ((r * 131072 + q + 2726488792) % 4294967296 + 1568478504) % 4294967296 = r * 131072 + q := by omega
theorem mask_core2 (q r : Nat) (hr : r < 32768) (hq : q < 131072) : (r * 131072 + q) % 131072 * 32768 + (r * 131072 + q) / 131072 = q * 32768 + r := by omega
theorem unmask_mask (x : BitVec 32) : unmaskF (maskF x) = x := by
  apply BitVec.eq_of_toNat_eq
  have hx := x.isLt
  rw [unmaskF_nat, maskF_nat, mask_core _ _ (by omega) (by omega), mask_core2 _ _ (by omega) (by omega)]
  omega
theorem umask_core (q r : Nat) (hr : r < 131072) (hq : q < 32768) : (r * 32768 + q) % 32768 * 131072 + (r * 32768 + q) / 32768 = q * 131072 + r := by omega
theorem mask_unmask (x : BitVec 32) : maskF (unmaskF x) = x := by
  apply BitVec.eq_of_toNat_eq
  have hx := x.isLt
  rw [maskF_nat, unmaskF_nat, umask_core _ _ (by omega) (by omega)]
  omega

/- a change of some bits -/
theorem stepF_eq_zero {x : BitVec 32} (h : stepF x = 0#32) : x = 0#32 := by
  rcases low_cases x with hl | hl
  · rw [stepF_even hl] at h
    have h2 : x.toNat % 2 = 0 := by
      have := congrArg BitVec.toNat hl
      rw [BitVec.toNat_and] at this
      have e : x.toNat &&& (1#32).toNat = x.toNat % 2 := Nat.and_two_pow_sub_one_eq_mod _ 1
      rw [e] at this; exact this
    have h3 : x.toNat / 2 = 0 := by
      have := congrArg BitVec.toNat h
      rw [BitVec.toNat_ushiftRight, Nat.shiftRight_eq_div_pow] at this; exact this
    apply BitVec.eq_of_toNat_eq
    show x.toNat = 0
    omega
  · exfalso
    unfold stepF at h
    rw [hl, neg_one_and] at h
    have := congrArg (fun v => BitVec.getLsbD v 31) h
    simp at this
theorem iterF_eq_zero (n : Nat) : ∀ x, iterF n x = 0#32 → x = 0#32 := by
  induction n with
  | zero => intro x h; exact h
  | succ n ih => intro x h; exact stepF_eq_zero (ih _ h)
theorem xor_cancel_left (a b c : BitVec 32) (h : a ^^^ b = a ^^^ c) : b = c := by
  have := congrArg (fun v => a ^^^ v) h
  simpa [← BitVec.xor_assoc] using this
theorem stepF_shl (i : Nat) (h : i + 1 < 32) : stepF (1#32 <<< (i + 1)) = 1#32 <<< i := by
  have hlow : (1#32 <<< (i + 1)) &&& 1#32 = 0#32 := by
    ext j hj
    simp only [BitVec.getElem_and, BitVec.getElem_shiftLeft, BitVec.getElem_one, BitVec.getElem_zero]
    by_cases h0 : j = 0
    · subst h0; simp
    · simp [h0]
  rw [stepF_even hlow]
  ext j hj
  simp only [BitVec.getElem_ushiftRight, BitVec.getLsbD_shiftLeft, BitVec.getElem_shiftLeft, BitVec.getElem_one, BitVec.getLsbD_one]
  by_cases h1 : j = i
  · subst h1
    have : 1 + j < 32 := by omega
    simp [this]; omega
  · by_cases h2 : j < i
    · have h3 : 1 + j < i + 1 := by omega
      simp [h2, h3]
    · have h3 : ¬ (1 + j - (i + 1) = 0) := by omega
      have h4 : ¬ (j - i = 0) := by omega
      simp [h2, h3, h4]
theorem iterF_shl (i : Nat) (h : i < 32) : iterF i (1#32 <<< i) = 1#32 := by
  induction i with
  | zero => rfl
  | succ i ih => rw [show iterF (i + 1) (1#32 <<< (i + 1)) = iterF i (stepF (1#32 <<< (i + 1))) from rfl, stepF_shl i h]; exact ih (by omega)
theorem iterF_shl_of (N i : Nat) (h : i < 32) (hN : i ≤ N) : iterF N (1#32 <<< i) = iterF (N - i) 1#32 := by
  rw [show N = i + (N - i) from by omega, iterF_add, iterF_shl i h]; congr 1; omega
theorem foldF_xor (l : List UInt8) : ∀ r d, foldF (r ^^^ d) l = foldF r l ^^^ iterF (8 * l.length) d := by
  induction l with
  | nil => intro r d; rfl
  | cons x l ih =>
    intro r d
    have : byteF (r ^^^ d) x = byteF r x ^^^ iterF 8 d := by
      unfold byteF
      rw [← iterF_xor]; congr 1; ac_rfl
    show foldF (byteF (r ^^^ d) x) l = foldF (byteF r x) l ^^^ _
    rw [this, ih, List.length_cons, Nat.mul_succ, Nat.add_comm, iterF_add]
theorem byteF_xor (r : BitVec 32) (x y : UInt8) : byteF r (x ^^^ y) = byteF r x ^^^ iterF 8 (BitVec.ofNat 32 y.toNat) := by
  unfold byteF
  rw [← iterF_xor]; congr 1
  have : BitVec.ofNat 32 (x ^^^ y).toNat = BitVec.ofNat 32 x.toNat ^^^ BitVec.ofNat 32 y.toNat := by
    rw [UInt8.toNat_xor]
    apply BitVec.eq_of_toNat_eq
    have hx := x.toNat_lt
    have hy := y.toNat_lt
    have hxy : x.toNat ^^^ y.toNat < 2 ^ 8 := Nat.xor_lt_two_pow hx hy
    rw [BitVec.toNat_xor, BitVec.toNat_ofNat, BitVec.toNat_ofNat, BitVec.toNat_ofNat, Nat.mod_eq_of_lt (by omega), Nat.mod_eq_of_lt (by omega), Nat.mod_eq_of_lt (by omega)]
  rw [this]; ac_rfl
theorem foldF_set (r : BitVec 32) (l : List UInt8) (q : Nat) (h : q < l.length) (y : UInt8) :
    foldF r (l.set q (l[q] ^^^ y)) = foldF r l ^^^ iterF (8 * (l.length - q)) (BitVec.ofNat 32 y.toNat) := by
  have e1 : l.set q (l[q] ^^^ y) = l.take q ++ ((l[q] ^^^ y) :: l.drop (q + 1)) := List.set_eq_take_append_cons_drop.trans (by rw [if_pos h])
  have e2 : l = l.take q ++ (l[q] :: l.drop (q + 1)) := by rw [List.getElem_cons_drop, List.take_append_drop]
  rw [e1]
  conv => rhs; rw [e2]
  rw [foldF_append, foldF_append]
  generalize foldF r (l.take q) = R
  show foldF (byteF R (l[q] ^^^ y)) (l.drop (q + 1)) = foldF (byteF R l[q]) (l.drop (q + 1)) ^^^ _
  rw [byteF_xor, foldF_xor, ← iterF_add]
  congr 2
  simp
  omega
theorem byte_one_shl (r : Nat) (h : r < 8) : BitVec.ofNat 32 (UInt8.ofNat (2 ^ r)).toNat = 1#32 <<< r := by
  match r, h with
  | 0, _ => rfl
  | 1, _ => rfl
  | 2, _ => rfl
  | 3, _ => rfl
  | 4, _ => rfl
  | 5, _ => rfl
  | 6, _ => rfl
  | 7, _ => rfl
/-- one bit of the text, turned -/
theorem sumF_flip (l : List UInt8) (p : Nat) (h : p / 8 < l.length) :
    sumF (l.set (p / 8) (l[p / 8] ^^^ UInt8.ofNat (2 ^ (p % 8)))) = sumF l ^^^ iterF (8 * l.length - p) 1#32 := by
  unfold sumF moreF
  rw [foldF_set _ _ _ h, byte_one_shl _ (Nat.mod_lt _ (by decide)), iterF_shl_of _ _ (by omega) (by omega), BitVec.not_xor_left]
  congr 2
  omega
theorem sumF_flip' (l : List UInt8) (q r : Nat) (h : q < l.length) (hr : r < 8) :
    sumF (l.set q (l[q] ^^^ UInt8.ofNat (2 ^ r))) = sumF l ^^^ iterF (8 * l.length - (8 * q + r)) 1#32 := by
  have e1 : (8 * q + r) / 8 = q := by omega
  have e2 : (8 * q + r) % 8 = r := by omega
  have := sumF_flip l (8 * q + r) (by rw [e1]; exact h)
  simp only [e1, e2] at this
  exact this
/-- the bits of a word below a place -/
def accF (t : BitVec 32) : Nat → BitVec 32
  | 0 => 0#32
  | i + 1 => accF t i ^^^ (if t.getLsbD i then 1#32 <<< i else 0#32)
theorem accF_bit (t : BitVec 32) (i : Nat) (hi : i ≤ 32) : ∀ j, (accF t i).getLsbD j = (decide (j < i) && t.getLsbD j) := by
  induction i with
  | zero => intro j; simp [accF]
  | succ i ih =>
    intro j
    have hb : (if t.getLsbD i then 1#32 <<< i else 0#32).getLsbD j = (decide (j = i) && t.getLsbD i) := by
      split
      · rename_i ht
        rw [ht]
        simp only [BitVec.getLsbD_shiftLeft, BitVec.getLsbD_one]
        by_cases h1 : j = i
        · subst h1; simp; omega
        · by_cases h2 : j < i
          · simp [h1, h2]
          · have : ¬ (j - i = 0) := by omega
            simp [h1, this]
      · rename_i ht
        simp at ht
        simp [ht]
    rw [accF, BitVec.getLsbD_xor, ih (by omega), hb]
    by_cases h1 : j = i
    · subst h1; simp
    · have : (j < i + 1) = (j < i) := by simp; omega
      simp [h1, this]
theorem accF_ne (t : BitVec 32) (i : Nat) (hi : i < 32) : (accF t (i + 1) ≠ 0#32) ↔ (accF t i ≠ 0#32 ∨ t.getLsbD i = true) := by
  have hz : ∀ (v : BitVec 32), v ≠ 0#32 ↔ ∃ j, v.getLsbD j = true := by
    intro v
    constructor
    · intro h
      rcases Classical.em (∃ j, v.getLsbD j = true) with h1 | h1
      · exact h1
      · exact absurd (BitVec.eq_of_getLsbD_eq fun j _ => by
          have : ¬ v.getLsbD j = true := fun h2 => h1 ⟨j, h2⟩
          simpa using this) h
    · rintro ⟨j, hj⟩ rfl
      simp at hj
  rw [hz, hz]
  simp only [accF_bit t i (by omega), accF_bit t (i + 1) hi]
  constructor
  · rintro ⟨j, hj⟩
    simp at hj
    by_cases h : j = i
    · subst h; exact .inr hj.2
    · exact .inl ⟨j, by simp [hj.2]; omega⟩
  · rintro (⟨j, hj⟩ | h)
    · simp at hj; exact ⟨j, by simp [hj.2]; omega⟩
    · exact ⟨i, by simp [h]⟩
def nz (x : BitVec 32) : Bool := decide (x ≠ 0#32)
theorem accF_on (t : BitVec 32) (i : Nat) (hi : i < 32) (h : t.getLsbD i = true) : accF t (i + 1) = accF t i ^^^ 1#32 <<< i ∧ nz (accF t (i + 1)) = true := by
  refine ⟨by rw [accF, if_pos h], ?_⟩
  unfold nz
  exact decide_eq_true ((accF_ne t i hi).2 (.inr h))
theorem accF_off (t : BitVec 32) (i : Nat) (h : ¬ t.getLsbD i = true) : accF t (i + 1) = accF t i := by
  rw [accF, if_neg h]; simp
theorem rel_on (l cl : List UInt8) (t : BitVec 32) (k i q r : Nat) (hq : q < cl.length) (hr : r < 8) (hk : k + i = 8 * q + r) (hi : i < 32) (hl : cl.length = l.length) (hb : t.getLsbD i = true)
    (hs : sumF cl = sumF l ^^^ iterF (8 * l.length - k) (accF t i)) :
    sumF (cl.set q (cl[q] ^^^ UInt8.ofNat (2 ^ r))) = sumF l ^^^ iterF (8 * l.length - k) (accF t (i + 1)) := by
  rw [sumF_flip' _ _ _ hq hr, hs, (accF_on t i hi hb).1, iterF_xor, iterF_shl_of _ _ hi (by omega), ← BitVec.xor_assoc, hl]
  congr 2
  omega
/-- what tells -/
theorem tells {s c d : BitVec 32} {N : Nat} (h : c = s ^^^ iterF N d) : (c ≠ s) ↔ d ≠ 0#32 := by
  subst h
  constructor
  · intro h hd; subst hd; rw [iterF_zero] at h; simp at h
  · intro h he
    have : iterF N d = 0#32 := xor_cancel_left s _ _ (by rw [he]; simp)
    exact h (iterF_eq_zero N d this)

theorem foldF_three : ∀ (x a b c : List UInt8) (r s t : BitVec 32), a.length = x.length → b.length = x.length → c.length = x.length →
    (∀ j, j < x.length → x.getD j 0 = a.getD j 0 ^^^ b.getD j 0 ^^^ c.getD j 0) → foldF (r ^^^ s ^^^ t) x = foldF r a ^^^ foldF s b ^^^ foldF t c
  | [], a, b, c, r, s, t, ha, hb, hc, _ => by
    rw [List.eq_nil_of_length_eq_zero ha, List.eq_nil_of_length_eq_zero hb, List.eq_nil_of_length_eq_zero hc]; rfl
  | x :: xs, a :: as9, b :: bs, c :: cs, r, s, t, ha, hb, hc, h => by
    have h0 : x = a ^^^ b ^^^ c := by simpa using h 0 (by simp)
    have ih := foldF_three xs as9 bs cs (byteF r a) (byteF s b) (byteF t c) (by simpa using ha) (by simpa using hb) (by simpa using hc)
      (fun j hj => by simpa using h (j + 1) (by simpa using hj))
    have hbyte : byteF (r ^^^ s ^^^ t) x = byteF r a ^^^ byteF s b ^^^ byteF t c := by
      have hx : ∀ p q : UInt8, BitVec.ofNat 32 (p ^^^ q).toNat = BitVec.ofNat 32 p.toNat ^^^ BitVec.ofNat 32 q.toNat := by
        intro p q
        rw [UInt8.toNat_xor]
        apply BitVec.eq_of_toNat_eq
        have hp := p.toNat_lt
        have hq := q.toNat_lt
        have hpq : p.toNat ^^^ q.toNat < 2 ^ 8 := Nat.xor_lt_two_pow hp hq
        rw [BitVec.toNat_xor, BitVec.toNat_ofNat, BitVec.toNat_ofNat, BitVec.toNat_ofNat, Nat.mod_eq_of_lt (by omega), Nat.mod_eq_of_lt (by omega), Nat.mod_eq_of_lt (by omega)]
      subst h0
      unfold byteF
      rw [← iterF_xor, ← iterF_xor, hx, hx]; congr 1; ac_rfl
    show foldF (byteF (r ^^^ s ^^^ t) x) xs = _
    rw [hbyte, ih]; rfl
theorem sumF_three (x a b c : List UInt8) (ha : a.length = x.length) (hb : b.length = x.length) (hc : c.length = x.length)
    (h : ∀ j, j < x.length → x.getD j 0 = a.getD j 0 ^^^ b.getD j 0 ^^^ c.getD j 0) : sumF x = sumF a ^^^ sumF b ^^^ sumF c := by
  have e := foldF_three x a b c (~~~ 0#32) (~~~ 0#32) (~~~ 0#32) ha hb hc h
  have e0 : (~~~ 0#32) ^^^ (~~~ 0#32) ^^^ (~~~ 0#32) = ~~~ 0#32 := by decide
  rw [e0] at e
  unfold sumF moreF
  rw [e]
  generalize foldF _ a = A
  generalize foldF _ b = B
  generalize foldF _ c = C
  rw [← BitVec.not_xor_left, ← BitVec.not_xor_left, BitVec.not_xor_right]
  ext i hi
  simp only [BitVec.getElem_not, BitVec.getElem_xor]
  cases A[i] <;> cases B[i] <;> cases C[i] <;> rfl

end Go.Proofs.YtlfbelocdpboeaaGreatDoor.Crc
/- Layer 4 (crc): what each function computes. -/
namespace Go.Proofs.YtlfbelocdpboeaaGreatDoor
set_option linter.unusedVariables false
set_option linter.unusedSimpArgs false
open Go.RowKit Crc
theorem step_any (r : BitVec 32) (w : World) : Calls Tryz.prog 101 #[.int .u32 (U r)] w fun e w' => e = .returned (.int .u32 (U (stepF r))) ∧ w = w' := by
  have h0 := U_lo r
  have h1 := U_hi r
  go_enter Tryz.func101, Tryz.ntmps101
  go_wp2
  go_ret
  refine ⟨ret_int ?_, rfl⟩
  have e3 : U r / 2 = _ := U_shr r 2 1 rfl
  rw [U_andc r 1 1 rfl (by decide), U_neg, U_andc _ 2197175160 2197175160 rfl (by decide), e3, U_xor]
  rfl
set_option maxRecDepth 100000 in
set_option maxHeartbeats 400000 in
theorem more_any (s : BitVec 32) (ad : Option Addr) (len cap : Nat) (l : List UInt8) (w : World) (hlen : l.length = len) (hm : len ≤ maxLen)
   (hc : Bytes w ad l) : 
    Calls Tryz.prog 90 #[.int .u32 (U s), .slice ad len cap] w fun e w' => e = .returned (.int .u32 (U (moreF s l))) ∧ w = w' := by
  have h0 := U_lo s
  have h1 := U_hi s
  have h2 := U_not s
  unfold maxLen at hm
  subst hlen
  go_enter Tryz.func90, Tryz.ntmps90
  go_wp2
  go_loop [5, 7, 12] (fun r _ i => ∃ k : Nat, k ≤ l.length ∧ i = .int .i64 k ∧ r = .int .u32 (U (foldF (~~~ s) (l.take k)))) (fun _ _ i => l.length - (intOf i).toNat)
  case atStart => 
    exact ⟨0, Nat.zero_le _, rfl, by rw [List.take_zero]; rfl⟩
  case round =>
    obtain ⟨k, hk, rfl, rfl⟩ := hrel
    by_cases hlt : k < l.length
    · obtain ⟨b, off, rfl, hcell⟩ := hc k hlt
      have hB1 := byte_hi l[k]
      have hx := U_xorB (foldF (~~~ s) (l.take k)) l[k]
      generalize hR : foldF (~~~ s) (l.take k) = R at *
      have HR := Lib.hid hR; clear hR
      go_wp2
      go_loop [5, 20] (fun r i => ∃ j : Nat, j ≤ 8 ∧ i = .int .i64 j ∧ r = .int .u32 (U (iterF j (R ^^^ BitVec.ofNat 32 l[k].toNat)))) (fun _ i => 8 - (intOf i).toNat)
      case atStart => exact ⟨0, by omega, rfl, by first | rw [iterF] | rw [bitsF]⟩
      case round =>
        obtain ⟨j, hj, rfl, rfl⟩ := hrel
        by_cases hj8 : j < 8
        · go_wp2_with (go_at_call 101; refine (step_any _ _).mono ?_; rintro e w' ⟨rfl, rfl⟩)
          go_round
          case rel => exact ⟨j + 1, by omega, by go_num, by rw [iterF_succ']⟩
          case measure => simp [intOf]; omega
        · obtain rfl : j = 8 := by omega
          go_wp2
          go_round
          case rel => exact ⟨k + 1, by omega, by go_num, by rw [List.take_succ_eq_append_getElem hlt, foldF_snoc, HR.out]; rfl⟩
          case measure => simp [intOf]; omega
    · obtain rfl : k = l.length := by omega
      have h3 := U_not (foldF (~~~ s) l)
      go_wp2
      go_ret
      exact ⟨rfl, rfl⟩
theorem sum_any (ad : Option Addr) (len cap : Nat) (l : List UInt8) (w : World) (hlen : l.length = len) (hm : len ≤ maxLen)
   (hc : Bytes w ad l) : 
    Calls Tryz.prog 65 #[.slice ad len cap] w fun e w' => e = .returned (.int .u32 (U (sumF l))) ∧ w = w' := by
  have hz : (0 : Int) = U 0#32 := U_lit 0 rfl (by decide)
  have HZ := Lib.hid hz; clear hz
  go_enter Tryz.func65, Tryz.ntmps65
  go_wp2_with (go_at_call 90; rw [HZ.out]; refine (more_any _ _ _ _ l _ hlen hm hc).mono ?_; rintro e w' ⟨rfl, rfl⟩)
  go_ret
  exact ⟨rfl, rfl⟩
theorem rstep_any (r b : BitVec 32) (w : World) : Calls Tryz.prog 102 #[.int .u32 (U r), .int .u32 (U b)] w fun e w' => e = .returned (.int .u32 (U (bitF r b))) ∧ w = w' := by
  have h0 := U_lo r
  have h1 := U_hi r
  have hx := U_xor r b
  have h2 := U_lo (r ^^^ b)
  have hs := U_shr r 2 1 rfl
  have hxc := U_xorc (r >>> 1) 2197175160 2197175160 rfl (by decide)
  have hb := Lib.hid (show bitF r b = if (r ^^^ b).toNat % 2 = 1 then (r >>> 1) ^^^ 0x82F63B78#32 else r >>> 1 from rfl)
  have hu := Lib.hid (show U (r ^^^ b) % 2 = (((r ^^^ b).toNat % 2 : Nat) : Int) by unfold U; omega)
  by_cases hc : (r ^^^ b).toNat % 2 = 1
  · have hd : (U (r ^^^ b) % 2 == 1) = true := by rw [hu.out, hc]; rfl
    rw [hb.out, if_pos hc]
    have HC := Lib.hid hc; clear hc
    go_enter Tryz.func102, Tryz.ntmps102
    go_wp2
    go_ret
    exact ⟨rfl, rfl⟩
  · have hd : (U (r ^^^ b) % 2 == 1) = false := by rw [hu.out, beq_eq_false_iff_ne]; omega
    rw [hb.out, if_neg hc]
    have HC := Lib.hid hc; clear hc
    go_enter Tryz.func102, Tryz.ntmps102
    go_wp2
    go_ret
    exact ⟨ret_int hs, rfl⟩
set_option maxRecDepth 100000 in
set_option maxHeartbeats 400000 in
theorem rmore_any (s : BitVec 32) (t : ByteArray) (w : World) (hm : t.size ≤ maxLen) :
    Calls Tryz.prog 94 #[.int .u32 (U s), .string t] w fun e w' => e = .returned (.int .u32 (U (moreF s t.data.toList))) ∧ w = w' := by
  have h0 := U_lo s
  have h1 := U_hi s
  have h2 := U_not s
  unfold maxLen at hm
  go_enter Tryz.func94, Tryz.ntmps94
  go_wp2
  go_loop [5, 6, 7] (fun r i _ => ∃ k : Nat, k ≤ t.size ∧ i = .int .i64 k ∧ r = .int .u32 (U (foldF (~~~ s) (t.data.toList.take k)))) (fun _ i _ => t.size - (intOf i).toNat)
  case atStart => 
    exact ⟨0, Nat.zero_le _, rfl, by rw [List.take_zero]; rfl⟩
  case round =>
    obtain ⟨k, hk, rfl, rfl⟩ := hrel
    by_cases hlt : k < t.size
    · generalize hR : foldF (~~~ s) (t.data.toList.take k) = R at *
      have HR := Lib.hid hR; clear hR
      have hB1 := byte_hi t[k]
      have hbb := U_byte_bit t[k]
      go_wp2
      go_loop [5, 7] (fun r i => ∃ j : Nat, j ≤ 8 ∧ i = .int .i64 j ∧ r = .int .u32 (U (bitsF j R (BitVec.ofNat 32 t[k].toNat)))) (fun _ i => 8 - (intOf i).toNat)
      case atStart => exact ⟨0, by omega, rfl, by first | rw [iterF] | rw [bitsF]⟩
      case round =>
        obtain ⟨j, hj, rfl, rfl⟩ := hrel
        by_cases hj8 : j < 8
        · go_wp2_with (go_at_call 102; refine (rstep_any _ _ _).mono ?_; rintro e w' ⟨rfl, rfl⟩)
          go_round
          case rel => exact ⟨j + 1, by omega, by go_num, by rw [bitsF_snoc]⟩
          case measure => simp [intOf]; omega
        · obtain rfl : j = 8 := by omega
          go_wp2
          go_round
          case rel => exact ⟨k + 1, by omega, by go_num, by rw [bitsF_byte, List.take_succ_eq_append_getElem (by simpa using hlt), foldF_snoc, HR.out]; rfl⟩
          case measure => simp [intOf]; omega
    · obtain rfl : k = t.size := by omega
      have h3 := U_not (foldF (~~~ s) t.data.toList)
      have h4 : t.data.toList.take t.size = t.data.toList := List.take_of_length_le (by simp)
      go_wp2
      go_ret
      exact ⟨rfl, rfl⟩
theorem rsum_any (t : ByteArray) (w : World) (hm : t.size ≤ maxLen) : 
    Calls Tryz.prog 77 #[.string t] w fun e w' => e = .returned (.int .u32 (U (sumF t.data.toList))) ∧ w = w' := by
  have hz : (0 : Int) = U 0#32 := U_lit 0 rfl (by decide)
  have HZ := Lib.hid hz; clear hz
  go_enter Tryz.func77, Tryz.ntmps77
  go_wp2_with (go_at_call 94; rw [HZ.out]; refine (rmore_any _ _ _ hm).mono ?_; rintro e w' ⟨rfl, rfl⟩)
  go_ret
  exact ⟨rfl, rfl⟩
theorem mask_any (x : BitVec 32) (w : World) : Calls Tryz.prog 64 #[.int .u32 (U x)] w fun e w' => e = .returned (.int .u32 (U (maskF x))) ∧ w = w' := by
  have h0 := U_lo x
  have h1 := U_hi x
  have e1 : bits BinOp.and IntKind.u64 (IntKind.u64.wrap (-15)) 31 = 17 := by decide
  have e2 := U_shl x 131072 17 rfl
  have e3 := U_shr x 32768 15 rfl
  have e4 := U_or (x <<< 17) (x >>> 15)
  have e5 := U_addc (x <<< 17 ||| x >>> 15) 2726488792 2726488792 rfl (by decide)
  go_enter Tryz.func64, Tryz.ntmps64
  go_wp2
  go_ret
  exact ⟨ret_int e5, rfl⟩
theorem rmask_any (x : BitVec 32) (w : World) : Calls Tryz.prog 76 #[.int .u32 (U x)] w fun e w' => e = .returned (.int .u32 (U (maskF x))) ∧ w = w' := by
  have h0 := U_lo x
  have h1 := U_hi x
  have e := Lib.hid (maskF_nat x)
  have e' := Lib.hid (show U x = (x.toNat : Int) by unfold U; rfl)
  have e'' := Lib.hid (show U (maskF x) = ((maskF x).toNat : Int) by unfold U; rfl)
  go_enter Tryz.func76, Tryz.ntmps76
  go_wp2
  go_ret
  exact ⟨ret_int (by rw [e'.out, e''.out, e.out]; omega), rfl⟩
theorem rsum_of (t : ByteArray) (l : List UInt8) (w : World) (hl : t.data.toList = l) (hm : t.size ≤ maxLen) : 
    Calls Tryz.prog 77 #[.string t] w fun e w' => e = .returned (.int .u32 (U (sumF l))) ∧ w = w' := by
  subst hl; exact rsum_any t w hm
theorem rmore_of (s : BitVec 32) (t : ByteArray) (l : List UInt8) (w : World) (hl : t.data.toList = l) (hm : t.size ≤ maxLen) : 
    Calls Tryz.prog 94 #[.int .u32 (U s), .string t] w fun e w' => e = .returned (.int .u32 (U (moreF s l))) ∧ w = w' := by
  subst hl; exact rmore_any s t w hm
end Go.Proofs.YtlfbelocdpboeaaGreatDoor
/- Layer 3 (varint): what each function computes. -/
namespace Go.Proofs.YtlfbelocdpboeaaGreatDoor
set_option linter.unusedVariables false
set_option linter.unusedSimpArgs false
open Go.RowKit Varint
end Go.Proofs.YtlfbelocdpboeaaGreatDoor
/- Layer 3 (varint): what the reference's functions compute. -/
namespace Go.Proofs.YtlfbelocdpboeaaGreatDoor
set_option linter.unusedVariables false
set_option linter.unusedSimpArgs false
open Go.RowKit Varint
end Go.Proofs.YtlfbelocdpboeaaGreatDoor
/- Layer 3 (varint): the other functions of the program and of the reference. -/
namespace Go.Proofs.YtlfbelocdpboeaaGreatDoor
set_option linter.unusedVariables false
set_option linter.unusedSimpArgs false
open Go.RowKit Varint
theorem fold_bits (m : Int) (h1 : -9223372036854775808 ≤ m) (h2 : m ≤ 9223372036854775807) :
    bits .xor .u64 (IntKind.u64.wrap (wrap64 (m * 2))) (IntKind.u64.wrap (m / 9223372036854775808)) = (foldF m : Int) := by
  unfold foldF
  by_cases h : m < 0
  · have e1 : IntKind.u64.wrap (m / 9223372036854775808) = 18446744073709551615 := by rw [IntKind.wrap_u64]; omega
    have e2 : IntKind.u64.wrap (wrap64 (m * 2)) = ((m * 2 + 18446744073709551616).toNat : Int) := by rw [IntKind.wrap_u64]; unfold wrap64; omega
    rw [e1, e2, u64_xor_ones _ (by omega), if_pos h]; omega
  · have e1 : IntKind.u64.wrap (m / 9223372036854775808) = 0 := by rw [IntKind.wrap_u64]; omega
    have e2 : IntKind.u64.wrap (wrap64 (m * 2)) = ((m * 2).toNat : Int) := by rw [IntKind.wrap_u64]; unfold wrap64; omega
    rw [e1, e2, u64_xor_zero _ (by omega), if_neg h]; omega
theorem unfold_bits (n : Nat) (hn : n < 18446744073709551616) : bits .xor .i64 ((n : Int) / 2) (wrap64 (-wrap64 (bits .and .u64 (n : Int) 1))) = unfoldF n := by
  rw [u64_low n hn]
  have e : (n : Int) / 2 = ((n / 2 : Nat) : Int) := by omega
  unfold unfoldF
  by_cases h : n % 2 = 1
  · have e2 : wrap64 (-wrap64 ((n % 2 : Nat) : Int)) = -1 := by rw [h]; unfold wrap64; decide
    rw [e2, e, i64_xor_neg _ (by omega), if_pos h]
  · have h0 : n % 2 = 0 := by omega
    have e2 : wrap64 (-wrap64 ((n % 2 : Nat) : Int)) = 0 := by rw [h0]; unfold wrap64; decide
    rw [e2, e, i64_xor_zero _ (by omega), if_neg h]
theorem ret3_tup {k1 k2 k3 : IntKind} {a b c a' b' c' : Int} (ha : a = a') (hb : b = b') (hc : c = c') :
    Ending.returned (.tuple #[.int k1 a, .int k2 b, .int k3 c]) = .returned (.tuple #[.int k1 a', .int k2 b', .int k3 c']) := by
  subst ha hb hc; rfl
theorem rPutF_any (n : Nat) (w : World) (hn : n < 18446744073709551616) : Calls Tryz.prog 45 #[.int .u64 n] w fun e w' => e = .returned (.string (str (putF n))) ∧ Gr w w' :=
  rPut_any 9 n w (by omega) (by omega)
end Go.Proofs.YtlfbelocdpboeaaGreatDoor
/- Layer 3 (varint): numbers of a fixed size. -/
namespace Go.Proofs.YtlfbelocdpboeaaGreatDoor
set_option linter.unusedVariables false
set_option linter.unusedSimpArgs false
open Go.RowKit Varint
end Go.Proofs.YtlfbelocdpboeaaGreatDoor
/- Layer 3 (varint): the reference's Get, and texts. -/
namespace Go.Proofs.YtlfbelocdpboeaaGreatDoor
set_option linter.unusedVariables false
set_option linter.unusedSimpArgs false
open Go.RowKit Varint
end Go.Proofs.YtlfbelocdpboeaaGreatDoor
/- Layer 1 (region): a pool in plain words. No program is in sight here. -/
namespace Go.Proofs.YtlfbelocdpboeaaGreatDoor
set_option linter.unusedVariables false
set_option linter.unusedSimpArgs false
open Go.RowKit
/-- a region: is it there, its generation, its slabs, how far it is handed out -/
structure Land where
  there : Bool
  gen : Nat
  slabs : List Nat
  fill : Nat
def noLand : Land := ⟨false, 0, [], 0⟩
/-- a pool: how many bytes a slab has, the slabs' bytes, which are taken, the regions -/
structure PoolF where
  size : Nat
  bytes : List (List UInt8)
  taken : List Bool
  lands : List Land
def landAt (p : PoolF) (i : Nat) : Land := p.lands.getD i noLand
/-- a region that is in order -/
structure LandOk (p : PoolF) (l : Land) : Prop where
  nodup : l.slabs.Nodup
  lt : ∀ s ∈ l.slabs, s < p.bytes.length
  fill : (l.slabs = [] ∧ l.fill = 0) ∨ (l.slabs ≠ [] ∧ (l.slabs.length - 1) * p.size < l.fill ∧ l.fill ≤ l.slabs.length * p.size)
  away : l.there = false → l.slabs = []
/-- a pool that is in order -/
structure PoolOk (p : PoolF) : Prop where
  s1 : 64 ≤ p.size
  s2 : p.size ≤ 65536
  s3 : p.size % 8 = 0
  n1 : 1 ≤ p.bytes.length
  n2 : p.bytes.length ≤ 4096
  bl : ∀ b ∈ p.bytes, b.length = p.size
  tk : p.taken.length = p.bytes.length
  ln : p.lands.length = 256
  ld : ∀ i, i < 256 → LandOk p (landAt p i)
  has : ∀ s, s < p.bytes.length → (p.taken.getD s false = true ↔ ∃ i, i < 256 ∧ s ∈ (landAt p i).slabs)
  apart : ∀ i j s, i < 256 → j < 256 → s ∈ (landAt p i).slabs → s ∈ (landAt p j).slabs → i = j
theorem nodup_len : ∀ (n : Nat) (l : List Nat), l.Nodup → (∀ s ∈ l, s < n) → l.length ≤ n
  | 0, l, _, h => by
    cases l with
    | nil => simp
    | cons a t => have := h a (by simp); omega
  | n + 1, l, hd, h => by
    have h1 := nodup_len n (l.filter (· != n)) (hd.filter _) (fun s hs => by
      rw [List.mem_filter] at hs
      have := h s hs.1
      have h2 : s ≠ n := by simpa using hs.2
      omega)
    have h2 : l.length ≤ (l.filter (· != n)).length + 1 := by
      clear h1 h
      induction l with
      | nil => simp
      | cons a t ih =>
        rw [List.nodup_cons] at hd
        by_cases ha : a = n
        · subst ha
          have : t.filter (· != a) = t := List.filter_eq_self.2 (fun x hx => by
            have : x ≠ a := fun e => hd.1 (e ▸ hx)
            simpa using this)
          rw [List.filter_cons, if_neg (by simp), this]
          simp
        · rw [List.filter_cons, if_pos (by simpa using ha)]
          have := ih hd.2
          simp only [List.length_cons]
          omega
    omega
theorem LandOk.len {p : PoolF} {l : Land} (h : LandOk p l) : l.slabs.length ≤ p.bytes.length := nodup_len _ _ h.nodup h.lt
theorem LandOk.cap {p : PoolF} {l : Land} (h : LandOk p l) (hp : PoolOk p) : l.slabs.length * p.size ≤ 268435456 :=
  Nat.le_trans (Nat.mul_le_mul (Nat.le_trans h.len hp.n2) hp.s2) (by decide)
theorem LandOk.fill_le {p : PoolF} {l : Land} (h : LandOk p l) : l.fill ≤ l.slabs.length * p.size := by
  rcases h.fill with ⟨h1, h2⟩ | ⟨_, _, h3⟩
  · omega
  · exact h3
theorem landAt_set (p : PoolF) (i j : Nat) (l : Land) (hi : i < p.lands.length) : landAt { p with lands := p.lands.set i l } j = if i = j then l else landAt p j := by
  unfold landAt
  simp only [List.getD_eq_getElem?_getD, List.getElem?_set]
  by_cases h : i = j
  · subst h; simp [hi]
  · simp [h]
/-- the region of a number -/
def landF (p : PoolF) (r : Int) : Option Nat := if 0 ≤ r ∧ r < 256 ∧ (landAt p r.toNat).there = true then some r.toNat else none
theorem landF_some {p : PoolF} {r : Int} {i : Nat} (h : landF p r = some i) : r = (i : Int) ∧ i < 256 ∧ (landAt p i).there = true := by
  unfold landF at h
  split at h
  · rename_i hc
    cases h
    refine ⟨by omega, by omega, hc.2.2⟩
  · cases h
theorem landF_of {p : PoolF} {i : Nat} (hi : i < 256) (h : (landAt p i).there = true) : landF p (i : Int) = some i := by
  unfold landF
  rw [if_pos ⟨by omega, by omega, by simpa using h⟩]
  simp
/-- Make -/
def makeAt (p : PoolF) (i : Nat) : PoolF := { p with lands := p.lands.set i ⟨true, (landAt p i).gen + 1, [], 0⟩ }
def makeF (p : PoolF) : Option Nat := (List.range 256).find? fun i => !(landAt p i).there
theorem makeF_some {p : PoolF} {i : Nat} (h : makeF p = some i) : i < 256 ∧ (landAt p i).there = false ∧ ∀ j, j < i → (landAt p j).there = true := by
  unfold makeF at h
  rw [List.find?_range_eq_some] at h
  obtain ⟨h1, h2, h3⟩ := h
  refine ⟨by simpa using h2, by simpa using h1, fun j hj => ?_⟩
  have := h3 j hj
  simpa using this
theorem makeF_none {p : PoolF} (h : makeF p = none) : ∀ j, j < 256 → (landAt p j).there = true := by
  unfold makeF at h
  rw [List.find?_eq_none] at h
  intro j hj
  have := h j (by simpa using hj)
  simpa using this
theorem makeF_is {p : PoolF} {i : Nat} (hi : i < 256) (h0 : (landAt p i).there = false) (h1 : ∀ j, j < i → (landAt p j).there = true) : makeF p = some i := by
  unfold makeF
  rw [List.find?_range_eq_some]
  exact ⟨by simpa using h0, by simpa using hi, fun j hj => by simpa using h1 j hj⟩
theorem makeF_isnone {p : PoolF} (h1 : ∀ j, j < 256 → (landAt p j).there = true) : makeF p = none := by
  unfold makeF
  rw [List.find?_eq_none]
  intro j hj
  have := h1 j (by simpa using hj)
  simpa using this
/-- the least idle slab -/
def idleF (p : PoolF) : Option Nat := (List.range p.taken.length).find? fun s => !(p.taken.getD s false)
theorem idleF_some {p : PoolF} {s : Nat} (h : idleF p = some s) : s < p.taken.length ∧ p.taken.getD s false = false ∧ ∀ j, j < s → p.taken.getD j false = true := by
  unfold idleF at h
  rw [List.find?_range_eq_some] at h
  obtain ⟨h1, h2, h3⟩ := h
  refine ⟨by simpa using h2, by simpa using h1, fun j hj => ?_⟩
  have := h3 j hj
  simpa using this
theorem idleF_none {p : PoolF} (h : idleF p = none) : ∀ j, j < p.taken.length → p.taken.getD j false = true := by
  unfold idleF at h
  rw [List.find?_eq_none] at h
  intro j hj
  have := h j (by simpa using hj)
  simpa using this
/-- a region has one slab more -/
def growAt (p : PoolF) (i s : Nat) : PoolF :=
  { p with bytes := p.bytes.set s (List.replicate p.size 0), taken := p.taken.set s true, lands := p.lands.set i ⟨(landAt p i).there, (landAt p i).gen, (landAt p i).slabs ++ [s], (landAt p i).slabs.length * p.size⟩ }
def fillAt (p : PoolF) (i f : Nat) : PoolF := { p with lands := p.lands.set i ⟨(landAt p i).there, (landAt p i).gen, (landAt p i).slabs, f⟩ }
/-- a piece -/
structure Hd where
  region : Int
  gen : Int
  off : Int
  len : Int
def noHd : Hd := ⟨0, 0, 0, 0⟩
def alignOk (a : Int) : Bool := a == 1 || a == 2 || a == 4 || a == 8 || a == 16 || a == 32 || a == 64
def upTo (n a : Nat) : Nat := (n + a - 1) / a * a
/-- how much of the last slab is handed out -/
def inF (p : PoolF) (i : Nat) : Nat := p.size - ((landAt p i).slabs.length * p.size - (landAt p i).fill)
/-- Alloc: the piece, the error, the pool behind it -/
def allocF (p : PoolF) (r n a : Int) : Hd × Nat × PoolF :=
  match landF p r with
  | none => (noHd, 7, p)
  | some i =>
    if n < 1 ∨ n > (p.size : Int) ∨ alignOk a = false then (noHd, 1, p)
    else
      let at_ := upTo (inF p i) a.toNat
      if (landAt p i).slabs = [] ∨ p.size < at_ + n.toNat then
        match idleF p with
        | none => (noHd, 5, p)
        | some s => (⟨(i : Int), ((landAt p i).gen : Int), (((landAt p i).slabs.length * p.size : Nat) : Int), n⟩, 0, fillAt (growAt p i s) i ((landAt p i).slabs.length * p.size + n.toNat))
      else (⟨(i : Int), ((landAt p i).gen : Int), ((((landAt p i).slabs.length - 1) * p.size + at_ : Nat) : Int), n⟩, 0, fillAt p i (((landAt p i).slabs.length - 1) * p.size + at_ + n.toNat))
/-- a piece's slab and where it begins there; or the error -/
def pieceF (p : PoolF) (h : Hd) : (Nat × Nat) × Nat :=
  match landF p h.region with
  | none => ((0, 0), 3)
  | some i =>
    if ((landAt p i).gen : Int) ≠ h.gen then ((0, 0), 3)
    else if h.len < 1 ∨ h.off < 0 ∨ h.off > ((landAt p i).fill : Int) ∨ h.len > ((landAt p i).fill : Int) - h.off then ((0, 0), 1)
    else if h.off.toNat % p.size + h.len.toNat > p.size then ((0, 0), 1)
    else (((landAt p i).slabs.getD (h.off.toNat / p.size) 0, h.off.toNat % p.size), 0)
def bytesAt (p : PoolF) (s : Nat) : List UInt8 := p.bytes.getD s []
/-- Load -/
def loadF (p : PoolF) (h : Hd) : List UInt8 × Nat :=
  match pieceF p h with
  | ((s, k), 0) => (((bytesAt p s).drop k).take h.len.toNat, 0)
  | (_, e) => ([], e)
/-- Store -/
def storeF (p : PoolF) (h : Hd) (at_ : Int) (b : List UInt8) : Nat × PoolF :=
  match pieceF p h with
  | ((s, k), 0) =>
    if at_ < 0 ∨ at_ > h.len ∨ (b.length : Int) > h.len - at_ then (1, p)
    else (0, { p with bytes := p.bytes.set s (((bytesAt p s).take (k + at_.toNat)) ++ b ++ ((bytesAt p s).drop (k + at_.toNat + b.length))) })
  | (_, e) => (e, p)
/-- Free -/
def freeSlabs (p : PoolF) (l : List Nat) : PoolF := { p with bytes := l.foldl (fun bs s => bs.set s (List.replicate p.size 0xDD)) p.bytes, taken := l.foldl (fun t s => t.set s false) p.taken }
def freeF (p : PoolF) (r : Int) : Nat × PoolF :=
  match landF p r with
  | none => (7, p)
  | some i => (0, { freeSlabs p (landAt p i).slabs with lands := p.lands.set i ⟨false, (landAt p i).gen, [], 0⟩ })
def slabsF (p : PoolF) (r : Int) : List Nat × Nat :=
  match landF p r with
  | none => ([], 7)
  | some i => ((landAt p i).slabs, 0)
def rawF (p : PoolF) (s : Int) : List UInt8 × Nat := if s < 0 ∨ s ≥ (p.bytes.length : Int) then ([], 1) else (bytesAt p s.toNat, 0)
def countF (p : PoolF) : Nat := (p.taken.filter (!·)).length
/-- New -/
def newF (size slabs : Nat) : PoolF := ⟨size, List.replicate slabs (List.replicate size 0), List.replicate slabs false, List.replicate 256 noLand⟩
def newOk (size slabs : Int) : Bool := decide (64 ≤ size) && decide (size ≤ 65536) && decide (size % 8 = 0) && decide (1 ≤ slabs) && decide (slabs ≤ 4096) && decide (size * slabs ≤ 4194304)
theorem landAt_new (size slabs i : Nat) : landAt (newF size slabs) i = noLand := by
  unfold landAt newF
  simp only [List.getD_eq_getElem?_getD, List.getElem?_replicate]
  split <;> rfl
theorem new_ok {size slabs : Nat} (h1 : 64 ≤ size) (h2 : size ≤ 65536) (h3 : size % 8 = 0) (h4 : 1 ≤ slabs) (h5 : slabs ≤ 4096) : PoolOk (newF size slabs) := by
  have hb : (newF size slabs).bytes.length = slabs := List.length_replicate
  have ht : (newF size slabs).taken.length = slabs := List.length_replicate
  refine ⟨h1, h2, h3, by rw [hb]; exact h4, by rw [hb]; exact h5, fun b hb => ?_, by rw [hb, ht], List.length_replicate, fun i _ => ?_, fun s hs => ?_, fun i j s _ _ hs => ?_⟩
  · rw [List.eq_of_mem_replicate hb]; exact List.length_replicate
  · rw [landAt_new]; exact ⟨by simp [noLand], by simp [noLand], .inl ⟨rfl, rfl⟩, fun _ => rfl⟩
  · simp only [landAt_new, noLand, List.not_mem_nil, and_false, exists_false, iff_false]
    show ¬ (List.replicate slabs false).getD s false = true
    rw [List.getD_eq_getElem?_getD, List.getElem?_replicate]
    split <;> simp
  · rw [landAt_new] at hs; simp [noLand] at hs
/-- a region turned: what stays -/
theorem make_ok {p : PoolF} (h : PoolOk p) {i : Nat} (hi : i < 256) (h0 : (landAt p i).there = false) : PoolOk (makeAt p i) := by
  have hs : (landAt p i).slabs = [] := (h.ld i hi).away h0
  have hl : i < p.lands.length := by rw [h.ln]; exact hi
  have ha : ∀ j, landAt (makeAt p i) j = if i = j then ⟨true, (landAt p i).gen + 1, [], 0⟩ else landAt p j := fun j => landAt_set p i j _ hl
  have hsl : ∀ j, (landAt (makeAt p i) j).slabs = (landAt p j).slabs := fun j => by
    rw [ha]; split
    · rename_i e; subst e; exact hs.symm
    · rfl
  refine ⟨h.s1, h.s2, h.s3, h.n1, h.n2, h.bl, h.tk, by simpa [makeAt] using h.ln, fun j hj => ?_, fun s hs => ?_, fun j k s hj hk h1 h2 => ?_⟩
  · rw [ha]; split
    · exact ⟨by simp, by simp, .inl ⟨rfl, rfl⟩, fun _ => rfl⟩
    · have := h.ld j hj
      exact ⟨this.nodup, this.lt, this.fill, this.away⟩
  · simp only [hsl]; exact h.has s hs
  · rw [hsl] at h1 h2; exact h.apart j k s hj hk h1 h2
end Go.Proofs.YtlfbelocdpboeaaGreatDoor
/- Layer 1 (region): how a piece is aligned, in bits. No program is in sight here. -/
namespace Go.Proofs.YtlfbelocdpboeaaGreatDoor
set_option linter.unusedVariables false
set_option linter.unusedSimpArgs false
open Go.RowKit
theorem i64_align (x k : Nat) (hk : k ≤ 6) (hx : x < 9223372036854775808) : bits .andNot .i64 (x : Int) ((2 ^ k - 1 : Nat) : Int) = ((x / 2 ^ k * 2 ^ k : Nat) : Int) := by
  show IntKind.i64.wrap ((BitVec.ofInt 64 (x : Int) &&& ~~~BitVec.ofInt 64 ((2 ^ k - 1 : Nat) : Int)).toNat : Int) = _
  rw [BitVec.ofInt_natCast, BitVec.ofInt_natCast]
  have e : (BitVec.ofNat 64 x &&& ~~~BitVec.ofNat 64 (2 ^ k - 1)) = BitVec.ofNat 64 (x / 2 ^ k * 2 ^ k) := by
    apply BitVec.eq_of_getLsbD_eq
    intro i hi
    simp only [BitVec.getLsbD_and, BitVec.getLsbD_not, BitVec.getLsbD_ofNat, hi, decide_true, Bool.true_and, Nat.testBit_two_pow_sub_one, Nat.testBit_mul_two_pow, Nat.testBit_div_two_pow]
    by_cases h : i < k
    · have : ¬ k ≤ i := by omega
      simp [h, this]
    · have h2 : k ≤ i := by omega
      simp [h, h2]
  rw [e, BitVec.toNat_ofNat]
  have hle : x / 2 ^ k * 2 ^ k ≤ x := Nat.div_mul_le_self _ _
  rw [Nat.mod_eq_of_lt (by omega), IntKind.wrap_i64]
  omega
theorem pow_check : ∀ a : Fin 65, 1 ≤ a.val → (decide (bits .and .i64 (a.val : Int) ((a.val : Int) - 1) = 0) = alignOk (a.val : Int)) := by decide +kernel
theorem align_check {a : Int} (h1 : 1 ≤ a) (h2 : a ≤ 64) : (bits .and .i64 a (a - 1) = 0 ∧ alignOk a = true) ∨ (bits .and .i64 a (a - 1) ≠ 0 ∧ alignOk a = false) := by
  have := pow_check ⟨a.toNat, by omega⟩ (by simp only; omega)
  simp only [show (a.toNat : Int) = a by omega] at this
  cases hk : alignOk a with
  | true => rw [hk] at this; exact .inl ⟨by simpa using this, rfl⟩
  | false => rw [hk] at this; exact .inr ⟨by simpa using this, rfl⟩
theorem alignOk_pow {a : Int} (h : alignOk a = true) : ∃ k : Nat, k ≤ 6 ∧ a = ((2 ^ k : Nat) : Int) := by
  unfold alignOk at h
  simp only [Bool.or_eq_true, beq_iff_eq] at h
  rcases h with (((((h | h) | h) | h) | h) | h) | h
  · exact ⟨0, by decide, h⟩
  · exact ⟨1, by decide, h⟩
  · exact ⟨2, by decide, h⟩
  · exact ⟨3, by decide, h⟩
  · exact ⟨4, by decide, h⟩
  · exact ⟨5, by decide, h⟩
  · exact ⟨6, by decide, h⟩
theorem alignOk_range {a : Int} (h : alignOk a = true) : 1 ≤ a ∧ a ≤ 64 := by
  unfold alignOk at h
  simp only [Bool.or_eq_true, beq_iff_eq] at h
  omega
/-- 'in' aligned -/
theorem align_up {x : Nat} {a : Int} (h : alignOk a = true) (hx : x ≤ 1000000000) : bits .andNot .i64 ((x : Int) + a - 1) (a - 1) = ((upTo x a.toNat : Nat) : Int) := by
  obtain ⟨k, hk, rfl⟩ := alignOk_pow h
  have hp : 0 < 2 ^ k := Nat.two_pow_pos k
  have hr := alignOk_range h
  have e1 : (x : Int) + ((2 ^ k : Nat) : Int) - 1 = ((x + 2 ^ k - 1 : Nat) : Int) := by omega
  have e2 : ((2 ^ k : Nat) : Int) - 1 = ((2 ^ k - 1 : Nat) : Int) := by omega
  rw [e1, e2, i64_align _ k hk (by omega)]
  unfold upTo
  rw [Int.toNat_natCast]
theorem upTo_bounds {x a : Nat} (h : 1 ≤ a) : x ≤ upTo x a ∧ upTo x a < x + a := by
  unfold upTo
  have h1 := Nat.div_add_mod (x + a - 1) a
  have h2 := Nat.mod_lt (x + a - 1) (show 0 < a by omega)
  have h3 : (x + a - 1) / a * a = a * ((x + a - 1) / a) := Nat.mul_comm _ _
  omega
end Go.Proofs.YtlfbelocdpboeaaGreatDoor
/- Layer 1 (region): every call leaves the pool in order. No program is in sight here. -/
namespace Go.Proofs.YtlfbelocdpboeaaGreatDoor
set_option linter.unusedVariables false
set_option linter.unusedSimpArgs false
open Go.RowKit
theorem Land.eta (l : Land) : (⟨l.there, l.gen, l.slabs, l.fill⟩ : Land) = l := rfl
theorem getD_set_bool (l : List Bool) (s j : Nat) (b : Bool) (hs : s < l.length) : (l.set s b).getD j false = if s = j then b else l.getD j false := by
  simp only [List.getD_eq_getElem?_getD, List.getElem?_set]
  by_cases h : s = j
  · subst h; simp [hs]
  · simp [h]
theorem landAt_grow {p : PoolF} (h : PoolOk p) {i : Nat} (hi : i < 256) (s j : Nat) : landAt (growAt p i s) j = if i = j then ⟨(landAt p i).there, (landAt p i).gen, (landAt p i).slabs ++ [s], (landAt p i).slabs.length * p.size⟩ else landAt p j :=
  landAt_set { p with bytes := p.bytes.set s (List.replicate p.size 0), taken := p.taken.set s true } i j _ (by show i < p.lands.length; rw [h.ln]; exact hi)
theorem landAt_fill {p : PoolF} (h : p.lands.length = 256) {i : Nat} (hi : i < 256) (f j : Nat) : landAt (fillAt p i f) j = if i = j then ⟨(landAt p i).there, (landAt p i).gen, (landAt p i).slabs, f⟩ else landAt p j :=
  landAt_set p i j _ (by rw [h]; exact hi)
theorem grow_lands {p : PoolF} (h : PoolOk p) (i s : Nat) : (growAt p i s).lands.length = 256 := by show (p.lands.set i _).length = 256; rw [List.length_set]; exact h.ln
theorem mem_bytes_set {α : Type} {l : List α} {s : Nat} {x y : α} (h : y ∈ l.set s x) : y ∈ l ∨ y = x := List.mem_or_eq_of_mem_set h
/-- a region has a slab more, and is handed out so far -/
theorem growfill_ok {p : PoolF} (h : PoolOk p) {i s f : Nat} (hi : i < 256) (hth : (landAt p i).there = true) (hs : s < p.taken.length) (h0 : p.taken.getD s false = false) (f1 : (landAt p i).slabs.length * p.size < f) (f2 : f ≤ ((landAt p i).slabs.length + 1) * p.size) :
    PoolOk (fillAt (growAt p i s) i f) := by
  have hA : ∀ j, landAt (fillAt (growAt p i s) i f) j = if i = j then ⟨(landAt p i).there, (landAt p i).gen, (landAt p i).slabs ++ [s], f⟩ else landAt p j := fun j => by
    rw [landAt_fill (grow_lands h i s) hi, landAt_grow h hi, landAt_grow h hi, if_pos rfl]
    split <;> rfl
  have hsb : s < p.bytes.length := by rw [← h.tk]; exact hs
  have hbl : (fillAt (growAt p i s) i f).bytes.length = p.bytes.length := List.length_set
  have hnot : ∀ j, j < 256 → s ∉ (landAt p j).slabs := fun j hj hm => by
    have := (h.has s hsb).2 ⟨j, hj, hm⟩
    rw [h0] at this; cases this
  have hsl : ∀ j, (landAt (fillAt (growAt p i s) i f) j).slabs = if i = j then (landAt p i).slabs ++ [s] else (landAt p j).slabs := fun j => by rw [hA]; split <;> rfl
  refine ⟨h.s1, h.s2, h.s3, by rw [hbl]; exact h.n1, by rw [hbl]; exact h.n2, fun b hb => ?_, ?_, ?_, fun j hj => ?_, fun t ht => ?_, fun j k t hj hk m1 m2 => ?_⟩
  · rcases mem_bytes_set hb with h1 | h1
    · exact h.bl b h1
    · rw [h1]; exact List.length_replicate
  · rw [hbl]; show (p.taken.set s true).length = _; rw [List.length_set]; exact h.tk
  · show ((growAt p i s).lands.set i _).length = 256; rw [List.length_set]; exact grow_lands h i s
  · rw [hA]
    by_cases e : i = j
    · subst e
      rw [if_pos rfl]
      have hl := h.ld i hi
      refine ⟨?_, fun t ht => ?_, .inr ⟨by simp, ?_, ?_⟩, fun hf => ?_⟩
      · refine List.nodup_append.2 ⟨hl.nodup, by simp, fun a ha b hb e => ?_⟩
        rw [List.mem_singleton] at hb
        exact hnot i hi (by rw [← hb, ← e]; exact ha)
      · rw [hbl]
        rcases List.mem_append.1 ht with h1 | h1
        · exact hl.lt t h1
        · rw [List.mem_singleton] at h1; rw [h1]; exact hsb
      · show (((landAt p i).slabs ++ [s]).length - 1) * p.size < f
        simpa using f1
      · show f ≤ ((landAt p i).slabs ++ [s]).length * p.size
        simpa using f2
      · exact absurd (hth.symm.trans hf) (by simp)
    · rw [if_neg e]
      have hl := h.ld j hj
      exact ⟨hl.nodup, fun t ht => by rw [hbl]; exact hl.lt t ht, hl.fill, hl.away⟩
  · rw [hbl] at ht
    have hg : (fillAt (growAt p i s) i f).taken.getD t false = if s = t then true else p.taken.getD t false := getD_set_bool p.taken s t true hs
    rw [hg]
    by_cases e : s = t
    · subst e
      rw [if_pos rfl]
      exact ⟨fun _ => ⟨i, hi, by rw [hsl, if_pos rfl]; simp⟩, fun _ => rfl⟩
    · rw [if_neg e, h.has t ht]
      constructor
      · rintro ⟨j, hj, hm⟩
        refine ⟨j, hj, ?_⟩
        rw [hsl]
        split
        · rename_i e2; subst e2; exact List.mem_append_left _ hm
        · exact hm
      · rintro ⟨j, hj, hm⟩
        refine ⟨j, hj, ?_⟩
        rw [hsl] at hm
        split at hm
        · rename_i e2; subst e2
          rcases List.mem_append.1 hm with h1 | h1
          · exact h1
          · rw [List.mem_singleton] at h1; exact absurd h1.symm e
        · exact hm
  · rw [hsl] at m1 m2
    by_cases ej : i = j
    · subst ej
      by_cases ek : i = k
      · exact ek
      · rw [if_pos rfl] at m1
        rw [if_neg ek] at m2
        rcases List.mem_append.1 m1 with h1 | h1
        · exact h.apart i k t hi hk h1 m2
        · rw [List.mem_singleton] at h1; rw [h1] at m2; exact absurd m2 (hnot k hk)
    · rw [if_neg ej] at m1
      by_cases ek : i = k
      · subst ek
        rw [if_pos rfl] at m2
        rcases List.mem_append.1 m2 with h1 | h1
        · exact h.apart j i t hj hi m1 h1
        · rw [List.mem_singleton] at h1; rw [h1] at m1; exact absurd m1 (hnot j hj)
      · rw [if_neg ek] at m2
        exact h.apart j k t hj hk m1 m2
/-- a region is handed out further within its last slab -/
theorem fill_ok {p : PoolF} (h : PoolOk p) {i f : Nat} (hi : i < 256) (hne : (landAt p i).slabs ≠ []) (f1 : ((landAt p i).slabs.length - 1) * p.size < f) (f2 : f ≤ (landAt p i).slabs.length * p.size) : PoolOk (fillAt p i f) := by
  have hA := fun j => landAt_fill (p := p) h.ln hi f j
  have hsl : ∀ j, (landAt (fillAt p i f) j).slabs = (landAt p j).slabs := fun j => by
    rw [hA]; split
    · rename_i e; subst e; rfl
    · rfl
  refine ⟨h.s1, h.s2, h.s3, h.n1, h.n2, h.bl, h.tk, ?_, fun j hj => ?_, fun t ht => ?_, fun j k t hj hk m1 m2 => ?_⟩
  · show (p.lands.set i _).length = 256; rw [List.length_set]; exact h.ln
  · have hl := h.ld j hj
    rw [hA]
    by_cases e : i = j
    · subst e; rw [if_pos rfl]
      exact ⟨hl.nodup, hl.lt, .inr ⟨hne, f1, f2⟩, hl.away⟩
    · rw [if_neg e]; exact ⟨hl.nodup, hl.lt, hl.fill, hl.away⟩
  · simp only [hsl]; exact h.has t ht
  · rw [hsl] at m1 m2; exact h.apart j k t hj hk m1 m2
theorem inF_bounds {p : PoolF} (h : PoolOk p) {i : Nat} (hi : i < 256) : inF p i ≤ p.size ∧ ((landAt p i).slabs ≠ [] → (landAt p i).fill = ((landAt p i).slabs.length - 1) * p.size + inF p i ∧ 1 ≤ inF p i) := by
  have hl := h.ld i hi
  unfold inF
  refine ⟨Nat.sub_le _ _, fun hne => ?_⟩
  rcases hl.fill with ⟨h1, _⟩ | ⟨_, h2, h3⟩
  · exact absurd h1 hne
  · obtain ⟨k, hk⟩ : ∃ k, (landAt p i).slabs.length = k + 1 := ⟨(landAt p i).slabs.length - 1, by
      cases hsl : (landAt p i).slabs with
      | nil => exact absurd hsl hne
      | cons _ _ => simp⟩
    rw [hk] at h2 h3 ⊢
    simp only [Nat.add_sub_cancel] at h2 ⊢
    rw [Nat.add_mul] at h3 ⊢
    omega
theorem alloc_ok {p : PoolF} (h : PoolOk p) (r n a : Int) : PoolOk (allocF p r n a).2.2 := by
  unfold allocF
  cases hl : landF p r with
  | none => exact h
  | some i =>
    obtain ⟨_, hi, hth⟩ := landF_some hl
    simp only
    split
    · exact h
    · rename_i hb
      have hn1 : 1 ≤ n.toNat := by omega
      have hn2 : n.toNat ≤ p.size := by omega
      split
      · cases hid : idleF p with
        | none => exact h
        | some s =>
          obtain ⟨h1, h2, _⟩ := idleF_some hid
          simp only
          exact growfill_ok h hi hth h1 h2 (by omega) (by rw [Nat.add_mul]; omega)
      · rename_i hg
        have hne : (landAt p i).slabs ≠ [] := fun e => hg (.inl e)
        have hfit : ¬ p.size < upTo (inF p i) a.toNat + n.toNat := fun e => hg (.inr e)
        simp only
        refine fill_ok h hi hne (by omega) ?_
        obtain ⟨k, hk⟩ : ∃ k, (landAt p i).slabs.length = k + 1 := ⟨(landAt p i).slabs.length - 1, by
          cases hsl : (landAt p i).slabs with
          | nil => exact absurd hsl hne
          | cons _ _ => simp⟩
        rw [hk, Nat.add_sub_cancel, Nat.add_mul]
        omega
theorem setB_ok {p : PoolF} (h : PoolOk p) (s : Nat) (b : List UInt8) (hb : s < p.bytes.length → b.length = p.size) : PoolOk { p with bytes := p.bytes.set s b } := by
  have hl : ∀ j, landAt { p with bytes := p.bytes.set s b } j = landAt p j := fun _ => rfl
  have hbl : ({ p with bytes := p.bytes.set s b } : PoolF).bytes.length = p.bytes.length := List.length_set
  refine ⟨h.s1, h.s2, h.s3, by rw [hbl]; exact h.n1, by rw [hbl]; exact h.n2, fun y hy => ?_, by rw [hbl]; exact h.tk, h.ln, fun j hj => ?_, fun t ht => h.has t (by rw [hbl] at ht; exact ht), h.apart⟩
  · by_cases hs : s < p.bytes.length
    · rcases mem_bytes_set hy with h1 | h1
      · exact h.bl y h1
      · rw [h1]; exact hb hs
    · rw [List.set_eq_of_length_le (by omega)] at hy
      exact h.bl y hy
  · have := h.ld j hj
    exact ⟨this.nodup, fun t ht => by rw [hbl]; exact this.lt t ht, this.fill, this.away⟩
end Go.Proofs.YtlfbelocdpboeaaGreatDoor
/- Layer 1 (region): a pool in memory. -/
namespace Go.Proofs.YtlfbelocdpboeaaGreatDoor
set_option linter.unusedVariables false
set_option linter.unusedSimpArgs false
open Go.RowKit
/-- only blocks of S have changed -/
structure Chg (S : Nat → Prop) (w w' : World) : Prop where
  os : w'.os = w.os
  tape : w'.tape = w.tape
  output : w'.output = w.output
  size : w.heap.size ≤ w'.heap.size
  block : ∀ j, j < w.heap.size → ¬ S j → w'.heap[j]? = w.heap[j]?
section
variable {S S' : Nat → Prop} {a w w' w2 : World}
theorem Chg.refl (w : World) : Chg S w w := ⟨rfl, rfl, rfl, Nat.le_refl _, fun _ _ _ => rfl⟩
theorem Chg.trans (h : Chg S w w') (k : Chg S' w' w2) (hs : ∀ j, S' j → S j ∨ w.heap.size ≤ j) : Chg S w w2 :=
  ⟨k.os.trans h.os, k.tape.trans h.tape, k.output.trans h.output, Nat.le_trans h.size k.size, fun j hj hn => (k.block j (Nat.lt_of_lt_of_le hj h.size) (fun hs' => by
    rcases hs j hs' with h1 | h1
    · exact hn h1
    · omega)).trans (h.block j hj hn)⟩
theorem Gr.chg (h : Gr w w') : Chg S w w' := ⟨h.os, h.tape, h.output, h.size, fun j hj _ => h.block j hj⟩
theorem Chg.grown {b : Nat} (h : w.grownBy w' (some b)) (hb : S b) : Chg S w w' := ⟨h.os, h.tape, h.output, h.size, fun j hj hn => h.block j hj (fun e => hn ((Option.some.inj e) ▸ hb))⟩
theorem Chg.grownO {o : Option Nat} (h : w.grownBy w' o) (hb : ∀ b, o = some b → S b) : Chg S w w' := ⟨h.os, h.tape, h.output, h.size, fun j hj hn => h.block j hj (fun e => hn (hb j e.symm))⟩
theorem Chg.gr (h : Chg S w w') (k : Gr a w) (hs : ∀ j, S j → a.heap.size ≤ j) : Gr a w' :=
  ⟨h.os.trans k.os, h.tape.trans k.tape, h.output.trans k.output, Nat.le_trans k.size h.size, fun j hj => (h.block j (Nat.lt_of_lt_of_le hj k.size) (fun e => by have := hs j e; omega)).trans (k.block j hj)⟩
theorem Chg.heap (h : Chg S w w') {j : Nat} {o : Obj} (hj : w.heap[j]? = some o) (hn : ¬ S j) : w'.heap[j]? = some o := (h.block j (Array.getElem?_eq_some_iff.1 hj).1 hn).trans hj
theorem Chg.blk (h : Chg S w w') {g : Nat} {t : TypeId} {cs : List Value} (hb : Blk w g t cs) (hn : ¬ S g) : Blk w' g t cs := h.heap hb hn
theorem Chg.owns (h : Chg S w w') {base : Nat} {e : TypeId} {size : Nat} {ad : Option Addr} {cap n : Nat} {xs : List Value} (ho : Owns w base e size ad cap n xs) (hn : ∀ x, ad = some x → ¬ S x.block) : Owns w' base e size ad cap n xs :=
  ho.kept fun k hk => h.block k (ho.lt _ hk).2 (hn _ hk)
theorem Chg.row (h : Chg S w w') {ad : Option Addr} {vs : List Value} (hr : Row w ad vs) (hn : ∀ x, ad = some x → ¬ S x.block) : Row w' ad vs := fun i u hi => by
  obtain ⟨b, off, e, hc⟩ := hr i u hi
  refine ⟨b, off, e, ?_⟩
  have := h.block b (World.block_lt_of_cell? w _ hc) (hn _ e)
  unfold World.cell? at hc ⊢
  simp only at hc ⊢
  rw [this]; exact hc
end
theorem Blk.ne {w : World} {g g' : Nat} {t t' : TypeId} {cs cs' : List Value} (h : Blk w g t cs) (h' : Blk w g' t' cs') (ht : t ≠ t') : g ≠ g' := fun e => by
  subst e
  unfold Blk at h h'
  rw [h] at h'
  cases h'
  exact ht rfl
theorem Blk.owns_ne {w : World} {g : Nat} {t e : TypeId} {cs : List Value} (h : Blk w g t cs) {base size cap n : Nat} {ad : Option Addr} {xs : List Value} (ho : Owns w base e size ad cap n xs) (ht : t ≠ e) : ∀ x, ad = some x → x.block ≠ g := fun x hx ex => by
  obtain ⟨_, _, _, ⟨e1, _⟩ | ⟨g', cur, fr, e1, e2, hg, _⟩⟩ := ho
  · rw [e1] at hx; cases hx
  · rw [e1] at hx; cases hx
    simp only at ex
    subst ex
    unfold Blk at h
    rw [h] at hg
    cases hg
    exact ht rfl
theorem Owns.ne {w : World} {e e' : TypeId} {base base' size size' cap cap' n n' : Nat} {ad ad' : Option Addr} {xs xs' : List Value} (h : Owns w base e size ad cap n xs) (h' : Owns w base' e' size' ad' cap' n' xs') (ht : e ≠ e') : ∀ x y, ad = some x → ad' = some y → x.block ≠ y.block := fun x y hx hy ex => by
  obtain ⟨_, _, _, ⟨e1, _⟩ | ⟨g, cur, fr, e1, _, hg, _⟩⟩ := h
  · rw [e1] at hx; cases hx
  · obtain ⟨_, _, _, ⟨e2, _⟩ | ⟨g', cur', fr', e2, _, hg', _⟩⟩ := h'
    · rw [e2] at hy; cases hy
    · rw [e1] at hx; rw [e2] at hy; cases hx; cases hy
      simp only at ex
      subst ex
      rw [hg] at hg'
      cases hg'
      exact ht rfl
/-- rows of four cells each -/
def flat (F : Nat → List Value) (n : Nat) : List Value := (List.range n).flatMap F
theorem flat_succ (F : Nat → List Value) (n : Nat) : flat F (n + 1) = flat F n ++ F n := by simp [flat, List.range_succ]
theorem flat_congr {F G : Nat → List Value} : ∀ n, (∀ i, i < n → F i = G i) → flat F n = flat G n
  | 0, _ => rfl
  | n + 1, h => by rw [flat_succ, flat_succ, flat_congr n (fun i hi => h i (by omega)), h n (by omega)]
theorem flat_len {F : Nat → List Value} (hF : ∀ i, (F i).length = 4) : ∀ n, (flat F n).length = 4 * n
  | 0 => rfl
  | n + 1 => by rw [flat_succ, List.length_append, flat_len hF n, hF]; omega
theorem flat_get {F : Nat → List Value} (hF : ∀ i, (F i).length = 4) : ∀ n i k, i < n → k < 4 → (flat F n)[i * 4 + k]? = (F i)[k]?
  | 0, _, _, h, _ => by omega
  | n + 1, i, k, h, hk => by
    rw [flat_succ]
    have hl := flat_len hF n
    by_cases hi : i < n
    · rw [List.getElem?_append_left (by omega)]
      exact flat_get hF n i k hi hk
    · obtain rfl : i = n := by omega
      rw [List.getElem?_append_right (by omega), hl]
      congr 1; omega
theorem flat_set {F : Nat → List Value} (hF : ∀ i, (F i).length = 4) : ∀ n i k v, i < n → k < 4 → (flat F n).set (i * 4 + k) v = flat (fun j => if j = i then (F j).set k v else F j) n
  | 0, _, _, _, h, _ => by omega
  | n + 1, i, k, v, h, hk => by
    rw [flat_succ, flat_succ]
    have hl := flat_len hF n
    by_cases hi : i < n
    · rw [List.set_append_left _ _ (by omega), flat_set hF n i k v hi hk, if_neg (by omega)]
    · obtain rfl : i = n := by omega
      rw [List.set_append_right _ _ (by omega), hl, if_pos rfl, show i * 4 + k - 4 * i = k by omega]
      congr 1
      exact flat_congr _ (fun j hj => by rw [if_neg (by omega)])
/-- a region's cells -/
def landV (l : Land) (ad : Option Addr) (cap : Nat) : List Value := [.bool l.there, .int .i64 (l.gen : Int), .slice ad l.slabs.length cap, .int .i64 (l.fill : Int)]
def poolV (p : PoolF) (ads : Option Addr) (cs : Nat) (adt : Option Addr) (ct : Nat) (A : Nat → Option Addr) (C : Nat → Nat) : List Value :=
  [.int .i64 (p.size : Int), .slice ads p.bytes.length cs, .slice adt p.taken.length ct] ++ flat (fun i => landV (landAt p i) (A i) (C i)) 256
def iv (l : List Nat) : List Value := l.map fun (n : Nat) => .int .i64 (n : Int)
def slabV (bd : Nat → Nat) (size n : Nat) : List Value := (List.range n).map fun i => .slice (some ⟨bd i, 0, none⟩) size size
section
variable {w w' : World} {S S' : Nat → Prop} {g : Nat} {p : PoolF} {ads adt : Option Addr} {cs ct : Nat} {A : Nat → Option Addr} {C bd : Nat → Nat}
theorem landV_len (l : Land) (ad : Option Addr) (cap : Nat) : (landV l ad cap).length = 4 := rfl
theorem poolV_land {i k : Nat} (hi : i < 256) (hk : k < 4) : (poolV p ads cs adt ct A C)[3 + i * 4 + k]? = (landV (landAt p i) (A i) (C i))[k]? := by
  unfold poolV
  rw [List.getElem?_append_right (by simp; omega), show 3 + i * 4 + k - [Value.int .i64 (p.size : Int), .slice ads p.bytes.length cs, .slice adt p.taken.length ct].length = i * 4 + k by simp; omega]
  exact flat_get (fun i => landV_len _ _ _) 256 i k hi hk
end
def upd {α : Type} (A : Nat → α) (i : Nat) (a : α) : Nat → α := fun j => if j = i then a else A j
theorem upd_same {α : Type} (A : Nat → α) (i : Nat) (a : α) : upd A i a i = a := by simp [upd]
theorem upd_other {α : Type} (A : Nat → α) {i j : Nat} (a : α) (h : j ≠ i) : upd A i a j = A j := by simp [upd, h]
section
variable {w w' : World} {S : Nat → Prop} {g : Nat} {p : PoolF} {ads adt : Option Addr} {cs ct : Nat} {A : Nat → Option Addr} {C bd : Nat → Nat}
theorem head_set {hd : List Value} (hh : hd.length = 3) {F : Nat → List Value} (hF : ∀ i, (F i).length = 4) {i k : Nat} (hi : i < 256) (hk : k < 4) (v : Value) :
    (hd ++ flat F 256).set (3 + i * 4 + k) v = hd ++ flat (fun j => if j = i then (F j).set k v else F j) 256 := by
  rw [List.set_append_right _ _ (by omega), hh, show 3 + i * 4 + k - 3 = i * 4 + k by omega, flat_set hF 256 i k v hi hk]
def setLand (p : PoolF) (i : Nat) (l : Land) : PoolF := { p with lands := p.lands.set i l }
theorem poolV_setLand (hl : p.lands.length = 256) {i : Nat} (hi : i < 256) (l : Land) (ad : Option Addr) (cap : Nat) :
    poolV (setLand p i l) ads cs adt ct (upd A i ad) (upd C i cap) = [.int .i64 (p.size : Int), .slice ads p.bytes.length cs, .slice adt p.taken.length ct] ++ flat (fun j => if j = i then landV l ad cap else landV (landAt p j) (A j) (C j)) 256 := by
  unfold poolV
  congr 1
  refine flat_congr _ fun j hj => ?_
  have ha : landAt (setLand p i l) j = if i = j then l else landAt p j := landAt_set p i j l (by omega)
  rw [ha]
  by_cases e : j = i
  · subst e
    rw [if_pos rfl, if_pos rfl, upd_same, upd_same]
  · rw [if_neg (fun x => e x.symm), if_neg e, upd_other _ _ e, upd_other _ _ e]
theorem landV_if_len (i : Nat) (l : Land) (ad : Option Addr) (cap : Nat) : ∀ j, (if j = i then landV l ad cap else landV (landAt p j) (A j) (C j)).length = 4 := fun j => by split <;> rfl
theorem poolV_set4 (hl : p.lands.length = 256) {i : Nat} (hi : i < 256) (l : Land) (ad : Option Addr) (cap : Nat) :
    ((((poolV p ads cs adt ct A C).set (3 + i * 4) (.bool l.there)).set (3 + i * 4 + 1) (.int .i64 (l.gen : Int))).set (3 + i * 4 + 2) (.slice ad l.slabs.length cap)).set (3 + i * 4 + 3) (.int .i64 (l.fill : Int)) =
      poolV (setLand p i l) ads cs adt ct (upd A i ad) (upd C i cap) := by
  rw [poolV_setLand hl hi]
  unfold poolV
  have hF : ∀ j, ((fun i => landV (landAt p i) (A i) (C i)) j).length = 4 := fun j => rfl
  have e0 := head_set (hd := [.int .i64 (p.size : Int), .slice ads p.bytes.length cs, .slice adt p.taken.length ct]) rfl hF hi (k := 0) (by decide) (.bool l.there)
  rw [Nat.add_zero] at e0
  rw [e0, head_set rfl (fun j => by split <;> rfl) hi (by decide), head_set rfl (fun j => by repeat (first | rfl | split)) hi (by decide), head_set rfl (fun j => by repeat (first | rfl | split)) hi (by decide)]
  congr 1
  refine flat_congr _ fun j hj => ?_
  by_cases e : j = i
  · subst e; simp only [if_true]; rfl
  · simp only [e, if_false]
end
end Go.Proofs.YtlfbelocdpboeaaGreatDoor
/- Layer 1 (region): the pool's small calls walked: land, Size, Make, Idle. -/
namespace Go.Proofs.YtlfbelocdpboeaaGreatDoor
set_option linter.unusedVariables false
set_option linter.unusedSimpArgs false
open Go.RowKit
def makeR (p : PoolF) : Nat × Nat × PoolF := match makeF p with | some i => (i, 0, makeAt p i) | none => (0, 5, p)
theorem taken_get (l : List Bool) (i : Nat) (hi : i < l.length) : (l.map Value.bool)[i]? = some (.bool (l.getD i false)) := by
  simp [hi]
theorem filter_take_succ {l : List Bool} {i : Nat} (hi : i < l.length) : ((l.take (i + 1)).filter (!·)).length = ((l.take i).filter (!·)).length + (if l.getD i false then 0 else 1) := by
  rw [List.take_add_one, List.getElem?_eq_getElem hi, List.filter_append, List.length_append, List.getD_eq_getElem?_getD, List.getElem?_eq_getElem hi]
  cases l[i] <;> rfl
def idleI (p : PoolF) : Int := match idleF p with | some s => (s : Int) | none => -1
theorem idleF_is {p : PoolF} {i : Nat} (hi : i < p.taken.length) (h0 : p.taken.getD i false = false) (h1 : ∀ j, j < i → p.taken.getD j false = true) : idleF p = some i := by
  unfold idleF
  rw [List.find?_range_eq_some]
  exact ⟨by rw [h0]; rfl, by simpa using hi, fun j hj => by rw [h1 j hj]; rfl⟩
theorem idleF_isnone {p : PoolF} (h1 : ∀ j, j < p.taken.length → p.taken.getD j false = true) : idleF p = none := by
  unfold idleF
  rw [List.find?_eq_none]
  intro j hj
  rw [h1 j (by simpa using hj)]; decide
end Go.Proofs.YtlfbelocdpboeaaGreatDoor
/- Layer 1 (region): what a step does to a pool in memory; clear, copy and make of whole blocks. -/
namespace Go.Proofs.YtlfbelocdpboeaaGreatDoor
set_option linter.unusedVariables false
set_option linter.unusedSimpArgs false
open Go.RowKit
section
variable {P : Program}
theorem run_clear_blk {t e ty : TypeId} {z : Value} {bytes : Nat} (E : Elem P t e z 1 bytes) (hz : z.cells = #[z]) (h1 : z.oneCell' = true) (w : World) (b : Nat) (cs : List Value) (hb : Blk w b e cs) (c : Nat) (hn : 0 < cs.length) :
    (Builtin.clear_ #[t] ty #[.slice (some ⟨b, 0, none⟩) cs.length c]).run P w = .ok (.tuple #[]) (w.setRow b (List.replicate cs.length z).toArray) := by
  obtain ⟨ht, hinfo, _, _⟩ := E
  obtain ⟨i, hi, hz0, hsize, hby⟩ := info_parts hinfo
  have hv : ∀ w, (zeroValue e).run P w = .ok z w := fun w => by simp [zeroValue, typeInfo, hi, hz0]
  have hzc : (Builtin.zeroCells z.cells cs.length).toList = List.replicate cs.length z := by
    rw [hz]
    simp [Builtin.zeroCells]
    apply List.ext_getElem
    · simp
    · intro i h1 h2
      simp [Nat.mod_one]
  have hst := run_storeCells_un (P := P) b 0 e (0, 0) (List.replicate cs.length z) 0 cs.toArray w hb (by simp) (by simp) (fun v hv' => by rw [List.eq_of_mem_replicate hv']; exact h1)
  simp only [Nat.add_zero, Nat.zero_add, List.take_zero, List.nil_append, List.length_replicate, List.drop_length, List.append_nil] at hst
  obtain ⟨m, hm⟩ : ∃ m, cs.length = m + 1 := ⟨cs.length - 1, by omega⟩
  rw [hm] at hst hzc ⊢
  simp only [Builtin.clear_]
  simp [run_underlying ht, hv, hzc, hst]
theorem wp_clear {t e : TypeId} {z : Value} {bytes : Nat} (E : Elem P t e z 1 bytes) (hz : z.cells = #[z]) (h1 : z.oneCell' = true) {w : World} {ops : Array Oper} {rest : List Oper} {o : Oper} {a : Act} {Q : Exit → Act → World → Prop} (hgd : o.guard = none) (x : Operand)
    (ho : o.op = .call { callee := .builtin .clear, args := #[x], argTypes := #[t] }) {b c n : Nat} {cs : List Value} (hx : a.eval x = .slice (some ⟨b, 0, none⟩) n c) (hb : Blk w b e cs) (hn : cs.length = n) (h0 : 0 < n)
    (h : ∀ w', Blk w' b e (List.replicate n z) → w.grownBy w' (some b) → wpList P ops Q rest (a.put o.dst (.tuple #[])) w') : wpList P ops Q (o :: rest) a w := by
  subst hn
  refine wpList_plain hgd fun K hK => ?_
  have hr := run_clear_blk (ty := o.type) E hz h1 w b cs hb c h0
  unfold Oper.wp execOp
  simp only [ho, resolve, invoke, builtin, Sem.run_bind, Sem.run_pure, Result.andThen_ok, List.map_toArray, List.map_cons, List.map_nil, hx, hr]
  exact hK _ _ (h _ (hb.setRow _) (grown_setRow _ _ _))
end
section
variable {w w' : World} {S : Nat → Prop} {g : Nat} {p : PoolF} {ads adt : Option Addr} {cs ct : Nat} {A : Nat → Option Addr} {C bd : Nat → Nat}
def setTaken (p : PoolF) (s : Nat) (b : Bool) : PoolF := { p with taken := p.taken.set s b }
def setBytes (p : PoolF) (s : Nat) (b : List UInt8) : PoolF := { p with bytes := p.bytes.set s b }
theorem map_set_bool (l : List Bool) (s : Nat) (b : Bool) : (l.set s b).map Value.bool = (l.map Value.bool).set s (.bool b) := by rw [List.map_set]
theorem bytesAt_set (p : PoolF) (s i : Nat) (b : List UInt8) (hs : s < p.bytes.length) : bytesAt (setBytes p s b) i = if s = i then b else bytesAt p i := by
  unfold bytesAt setBytes
  simp only [List.getD_eq_getElem?_getD, List.getElem?_set]
  by_cases h : s = i
  · subst h; simp [hs]
  · simp [h]
theorem poolV_set1 (hl : p.lands.length = 256) {i k : Nat} (hi : i < 256) (hk : k < 4) (v : Value) (l : Land) (ad : Option Addr) (cap : Nat) (hv : (landV (landAt p i) (A i) (C i)).set k v = landV l ad cap) :
    (poolV p ads cs adt ct A C).set (3 + i * 4 + k) v = poolV (setLand p i l) ads cs adt ct (upd A i ad) (upd C i cap) := by
  rw [poolV_setLand hl hi]
  unfold poolV
  rw [head_set rfl (fun j => rfl) hi hk]
  congr 1
  refine flat_congr _ fun j hj => ?_
  by_cases e : j = i
  · subst e; rw [if_pos rfl, if_pos rfl]; exact hv
  · rw [if_neg e, if_neg e]
theorem upd_id {α : Type} (A : Nat → α) (i : Nat) : upd A i (A i) = A := by
  funext j
  by_cases h : j = i
  · subst h; rw [upd_same]
  · rw [upd_other _ _ h]
end
def hdv (h : Hd) : Value := .agg #[.int .i64 h.region, .int .i64 h.gen, .int .i64 h.off, .int .i64 h.len]
theorem Blk.four {w : World} {g : Nat} {t : TypeId} {a b c d : Value} (h : Blk w g t [a, b, c, d]) : w.cell? ⟨g, 0, none⟩ = some a ∧ w.cell? ⟨g, 1, none⟩ = some b ∧ w.cell? ⟨g, 2, none⟩ = some c ∧ w.cell? ⟨g, 3, none⟩ = some d ∧ w.frozen? ⟨g, 0, none⟩ = false ∧ w.frozen? ⟨g, 1, none⟩ = false ∧ w.frozen? ⟨g, 2, none⟩ = false ∧ w.frozen? ⟨g, 3, none⟩ = false :=
  ⟨h.cell rfl, h.cell rfl, h.cell rfl, h.cell rfl, h.frozen _, h.frozen _, h.frozen _, h.frozen _⟩
theorem iv_get (l : List Nat) (i s : Nat) (h : l[i]? = some s) : (iv l)[i]? = some (.int .i64 (s : Int)) := by simp [iv, h]
theorem slabV_get {bd : Nat → Nat} {size n i : Nat} (h : i < n) : (slabV bd size n)[i]? = some (.slice (some ⟨bd i, 0, none⟩) size size) := by simp [slabV, h]
end Go.Proofs.YtlfbelocdpboeaaGreatDoor
/- Layer 1 (region): Free walked. -/
namespace Go.Proofs.YtlfbelocdpboeaaGreatDoor
set_option linter.unusedVariables false
set_option linter.unusedSimpArgs false
open Go.RowKit
theorem foldl_set_len {α β : Type} (l : List Nat) (x : β) : ∀ (b : List β), (l.foldl (fun bs s => bs.set s x) b).length = b.length := by
  induction l with
  | nil => intro b; rfl
  | cons s t ih => intro b; rw [List.foldl_cons, ih, List.length_set]
theorem freeSlabs_len (p : PoolF) (l : List Nat) : (freeSlabs p l).bytes.length = p.bytes.length ∧ (freeSlabs p l).taken.length = p.taken.length := ⟨foldl_set_len (α := Nat) l _ _, foldl_set_len (α := Nat) l _ _⟩
theorem freeSlabs_snoc (p : PoolF) (l : List Nat) (s : Nat) : freeSlabs p (l ++ [s]) = setTaken (setBytes (freeSlabs p l) s (List.replicate p.size 0xDD)) s false := by
  unfold freeSlabs setTaken setBytes
  simp only [List.foldl_append, List.foldl_cons, List.foldl_nil]
theorem setBytes_twice (p : PoolF) (s : Nat) (a b : List UInt8) : setBytes (setBytes p s a) s b = setBytes p s b := by unfold setBytes; simp only [List.set_set]
theorem poison_step (x : UInt8) (l : List UInt8) (j : Nat) (hj : j < l.length) : (List.replicate j x ++ l.drop j).set j x = List.replicate (j + 1) x ++ l.drop (j + 1) := by
  rw [List.set_append_right _ _ (by simp), List.length_replicate, Nat.sub_self, List.replicate_succ', List.append_assoc]
  congr 1
  rw [List.drop_eq_getElem_cons hj, List.set_cons_zero]
  rfl
theorem bytesAt_foldl_len (sz : Nat) (x : List UInt8) (hx : x.length = sz) : ∀ (l : List Nat) (b : List (List UInt8)), (∀ y ∈ b, y.length = sz) → ∀ y ∈ l.foldl (fun bs s => bs.set s x) b, y.length = sz
  | [], _, h => h
  | s :: t, b, h => by
    rw [List.foldl_cons]
    refine bytesAt_foldl_len sz x hx t _ fun y hy => ?_
    rcases List.mem_or_eq_of_mem_set hy with h1 | h1
    · exact h y h1
    · rw [h1]; exact hx
end Go.Proofs.YtlfbelocdpboeaaGreatDoor
/- Layer 1 (region): a piece of a region, walked. -/
namespace Go.Proofs.YtlfbelocdpboeaaGreatDoor
set_option linter.unusedVariables false
set_option linter.unusedSimpArgs false
open Go.RowKit
theorem pieceF_ok {p : PoolF} {h : Hd} {s k : Nat} (hp : PoolOk p) (e : pieceF p h = ((s, k), 0)) : ∃ i o l : Nat, landF p h.region = some i ∧ i < 256 ∧ h.off = (o : Int) ∧ h.len = (l : Int) ∧ h.region = (i : Int) ∧ h.gen = ((landAt p i).gen : Int) ∧ 1 ≤ l ∧ o + l ≤ (landAt p i).fill ∧
    o / p.size < (landAt p i).slabs.length ∧ (landAt p i).slabs[o / p.size]? = some s ∧ k = o % p.size ∧ k + l ≤ p.size ∧ s < p.bytes.length := by
  unfold pieceF at e
  cases hl : landF p h.region with
  | none => rw [hl] at e; simp at e
  | some i =>
    obtain ⟨e0, hi, hth⟩ := landF_some hl
    have hlk := hp.ld i hi
    have hfl := hlk.fill_le
    have hs1 := hp.s1
    rw [hl] at e
    simp only at e
    split at e
    · simp at e
    · rename_i hg
      split at e
      · simp at e
      · rename_i hb
        split at e
        · simp at e
        · rename_i hf
          simp only [Prod.mk.injEq, and_true] at e
          have ho : h.off = ((h.off.toNat : Nat) : Int) := by omega
          have hln : h.len = ((h.len.toNat : Nat) : Int) := by omega
          have hlt : h.off.toNat / p.size < (landAt p i).slabs.length := by
            rw [Nat.div_lt_iff_lt_mul (by omega)]; omega
          have hsl : (landAt p i).slabs[h.off.toNat / p.size]? = some s := by
            rw [List.getElem?_eq_getElem hlt, ← e.1, List.getD_eq_getElem?_getD, List.getElem?_eq_getElem hlt]; rfl
          refine ⟨i, h.off.toNat, h.len.toNat, rfl, hi, ho, hln, e0, by omega, by omega, by omega, hlt, hsl, e.2.symm, by omega, ?_⟩
          exact hlk.lt s (List.mem_of_getElem? hsl)
end Go.Proofs.YtlfbelocdpboeaaGreatDoor
/- Layer 1 (region): a piece of a region, walked: the other cases. -/
namespace Go.Proofs.YtlfbelocdpboeaaGreatDoor
set_option linter.unusedVariables false
set_option linter.unusedSimpArgs false
open Go.RowKit
def pieceV (bd : Nat → Nat) (p : PoolF) (h : Hd) : Value := match pieceF p h with
  | ((s, k), 0) => .tuple #[.slice (some ⟨bd s, k, none⟩) h.len.toNat (p.size - k), .int .i64 0]
  | (_, e) => .tuple #[.slice none 0 0, .int .i64 (e : Int)]
theorem pieceV_err {bd : Nat → Nat} {p : PoolF} {h : Hd} {x : Nat × Nat} {e : Nat} (hp : pieceF p h = (x, e + 1)) : pieceV bd p h = .tuple #[.slice none 0 0, .int .i64 ((e + 1 : Nat) : Int)] := by unfold pieceV; rw [hp]; rfl
theorem pieceV_ok {bd : Nat → Nat} {p : PoolF} {h : Hd} {s k : Nat} (hp : pieceF p h = ((s, k), 0)) : pieceV bd p h = .tuple #[.slice (some ⟨bd s, k, none⟩) h.len.toNat (p.size - k), .int .i64 0] := by unfold pieceV; rw [hp]; rfl
end Go.Proofs.YtlfbelocdpboeaaGreatDoor
/- Layer 1 (region): Load, Slabs, Raw, Store walked. -/
namespace Go.Proofs.YtlfbelocdpboeaaGreatDoor
set_option linter.unusedVariables false
set_option linter.unusedSimpArgs false
open Go.RowKit
set_option maxRecDepth 100000 in
theorem clone_nil (w : World) : Calls Tryz.prog 34 #[.slice none 0 0] w fun e w' => e = .returned (.slice none 0 0) ∧ w = w' := by
  have HE := fun w' => Lib.run_eql_slice_nil (P := Tryz.prog) w' 27 5 none 0 0 0 0 Tryz.underlying27
  go_enter Tryz.func34, Tryz.ntmps34
  go_wp2
  go_ret
  exact ⟨rfl, rfl⟩
theorem iv_one (l : List Nat) : ∀ v ∈ iv l, v.oneCell' = true := by
  intro v hv
  simp only [iv, List.mem_map] at hv
  obtain ⟨x, _, rfl⟩ := hv
  rfl
theorem iv_length (l : List Nat) : (iv l).length = l.length := by simp [iv]
theorem bytes_part {w : World} {b k n : Nat} {l : List UInt8} (h : Blk w b 5 (bv l)) (hk : k + n ≤ l.length) : Bytes w (some ⟨b, k, none⟩) ((l.drop k).take n) := by
  have hb : Bytes w (some ⟨b, 0, none⟩) l := fun i hi => ⟨b, 0, rfl, by rw [Nat.zero_add]; exact h.cell (bv_get l i hi)⟩
  have := (hb.drop k).take n
  rw [Nat.zero_add] at this
  exact this
theorem bytesAt_len {p : PoolF} (hp : PoolOk p) {s : Nat} (hs : s < p.bytes.length) : (bytesAt p s).length = p.size := by
  unfold bytesAt
  rw [List.getD_eq_getElem?_getD, List.getElem?_eq_getElem hs]
  exact hp.bl _ (List.getElem_mem hs)
theorem loadF_ok {p : PoolF} {h : Hd} {s k : Nat} (e : pieceF p h = ((s, k), 0)) : loadF p h = (((bytesAt p s).drop k).take h.len.toNat, 0) := by unfold loadF; rw [e]; rfl
theorem loadF_err {p : PoolF} {h : Hd} {x : Nat × Nat} {n : Nat} (e : pieceF p h = (x, n + 1)) : loadF p h = ([], n + 1) := by unfold loadF; rw [e]; rfl
theorem storeF_err {p : PoolF} {h : Hd} {x : Nat × Nat} {n : Nat} {a : Int} {b : List UInt8} (e : pieceF p h = (x, n + 1)) : storeF p h a b = (n + 1, p) := by unfold storeF; rw [e]; rfl
theorem storeF_bad {p : PoolF} {h : Hd} {s k : Nat} {a : Int} {b : List UInt8} (e : pieceF p h = ((s, k), 0)) (hb : a < 0 ∨ a > h.len ∨ (b.length : Int) > h.len - a) : storeF p h a b = (1, p) := by
  unfold storeF; rw [e]; simp only; rw [if_pos hb]
theorem storeF_ok {p : PoolF} {h : Hd} {s k : Nat} {a : Int} {b : List UInt8} (e : pieceF p h = ((s, k), 0)) (hb : ¬ (a < 0 ∨ a > h.len ∨ (b.length : Int) > h.len - a)) :
    storeF p h a b = (0, setBytes p s (((bytesAt p s).take (k + a.toNat)) ++ b ++ ((bytesAt p s).drop (k + a.toNat + b.length)))) := by
  unfold storeF; rw [e]; simp only; rw [if_neg hb]; rfl
theorem bv_take (l : List UInt8) (n : Nat) : (bv l).take n = bv (l.take n) := by simp [bv]
theorem bv_drop (l : List UInt8) (n : Nat) : (bv l).drop n = bv (l.drop n) := by simp [bv]
end Go.Proofs.YtlfbelocdpboeaaGreatDoor
/- Layer 1 (region): Store and Free leave the pool in order; what is seen of it behind. -/
namespace Go.Proofs.YtlfbelocdpboeaaGreatDoor
set_option linter.unusedVariables false
set_option linter.unusedSimpArgs false
open Go.RowKit
theorem splice_len {l b : List UInt8} {k : Nat} (h : k + b.length ≤ l.length) : (l.take k ++ b ++ l.drop (k + b.length)).length = l.length := by
  simp only [List.length_append, List.length_take, List.length_drop]; omega
theorem store_ok {p : PoolF} (h : PoolOk p) (hd : Hd) (a : Int) (b : List UInt8) : PoolOk (storeF p hd a b).2 := by
  rcases hpf : pieceF p hd with ⟨⟨s, k⟩, e⟩
  cases e with
  | succ e => rw [storeF_err hpf]; exact h
  | zero =>
    obtain ⟨i, o, l, -, hi, e2, e3, e4, e5, hl1, -, -, -, -, hkl, hs⟩ := pieceF_ok h hpf
    by_cases hb : a < 0 ∨ a > hd.len ∨ (b.length : Int) > hd.len - a
    · rw [storeF_bad hpf hb]; exact h
    · rw [storeF_ok hpf hb]
      refine setB_ok h s _ (fun hs => ?_)
      have hbl := bytesAt_len h hs
      rw [splice_len (by omega), hbl]
theorem foldl_set_bool : ∀ (l : List Nat) (b : List Bool) (t : Nat), (l.foldl (fun t s => t.set s false) b).getD t false = if t ∈ l then false else b.getD t false
  | [], b, t => by simp
  | s :: r, b, t => by
    rw [List.foldl_cons, foldl_set_bool r]
    by_cases h1 : t ∈ r
    · rw [if_pos h1, if_pos (List.mem_cons_of_mem _ h1)]
    · rw [if_neg h1]
      by_cases h2 : t = s
      · subst h2
        rw [if_pos (by simp)]
        simp only [List.getD_eq_getElem?_getD, List.getElem?_set]
        by_cases hl : t < b.length
        · simp [hl]
        · simp [hl]
      · rw [if_neg (by simp [h1, h2])]
        simp only [List.getD_eq_getElem?_getD, List.getElem?_set]
        rw [if_neg (fun e => h2 e.symm)]
theorem foldl_set_get {β : Type} (x d : β) : ∀ (l : List Nat) (b : List β) (t : Nat), t < b.length → (l.foldl (fun t s => t.set s x) b).getD t d = if t ∈ l then x else b.getD t d
  | [], b, t, _ => by simp
  | s :: r, b, t, ht => by
    rw [List.foldl_cons, foldl_set_get x d r _ t (by rw [List.length_set]; exact ht)]
    by_cases h1 : t ∈ r
    · rw [if_pos h1, if_pos (List.mem_cons_of_mem _ h1)]
    · rw [if_neg h1]
      by_cases h2 : t = s
      · subst h2
        rw [if_pos (by simp)]
        simp [List.getD_eq_getElem?_getD, List.getElem?_set, ht]
      · rw [if_neg (by simp [h1, h2])]
        simp only [List.getD_eq_getElem?_getD, List.getElem?_set]
        rw [if_neg (fun e => h2 e.symm)]
theorem landAt_free {p : PoolF} (h : PoolOk p) {i : Nat} (hi : i < 256) (L : List Nat) (l : Land) (j : Nat) : landAt { freeSlabs p L with lands := p.lands.set i l } j = if i = j then l else landAt p j := by
  have := landAt_set p i j l (by rw [h.ln]; exact hi)
  exact this
theorem free_ok {p : PoolF} (h : PoolOk p) (r : Int) : PoolOk (freeF p r).2 := by
  unfold freeF
  cases hl : landF p r with
  | none => exact h
  | some i =>
    obtain ⟨_, hi, hth⟩ := landF_some hl
    simp only
    obtain ⟨L, hL⟩ : ∃ L, L = (landAt p i).slabs := ⟨_, rfl⟩
    rw [← hL]
    have hA := fun j => landAt_free h hi L ⟨false, (landAt p i).gen, [], 0⟩ j
    obtain ⟨q, hq⟩ : ∃ q : PoolF, q = { freeSlabs p L with lands := p.lands.set i ⟨false, (landAt p i).gen, [], 0⟩ } := ⟨_, rfl⟩
    rw [← hq] at hA ⊢
    have hbl : q.bytes.length = p.bytes.length := by rw [hq]; exact (freeSlabs_len p L).1
    have htl : q.taken.length = p.taken.length := by rw [hq]; exact (freeSlabs_len p L).2
    have hsz : q.size = p.size := by rw [hq]; rfl
    have htk : ∀ t, q.taken.getD t false = if t ∈ L then false else p.taken.getD t false := fun t => by rw [hq]; exact foldl_set_bool L p.taken t
    refine ⟨by rw [hsz]; exact h.s1, by rw [hsz]; exact h.s2, by rw [hsz]; exact h.s3, by rw [hbl]; exact h.n1, by rw [hbl]; exact h.n2, fun b hb => ?_, by rw [hbl, htl]; exact h.tk, ?_, fun j hj => ?_, fun t ht => ?_, fun j k t hj hk m1 m2 => ?_⟩
    · rw [hsz]
      rw [hq] at hb
      exact bytesAt_foldl_len p.size _ (by simp) L p.bytes h.bl b hb
    · rw [hq]; show (p.lands.set i _).length = 256; rw [List.length_set]; exact h.ln
    · rw [hA]
      split
      · exact ⟨by simp, by simp, .inl ⟨rfl, rfl⟩, fun _ => rfl⟩
      · have := h.ld j hj
        exact ⟨this.nodup, fun t ht => by rw [hbl]; exact this.lt t ht, by rw [hsz]; exact this.fill, this.away⟩
    · rw [hbl] at ht
      rw [htk]
      by_cases hm : t ∈ L
      · rw [if_pos hm]
        refine ⟨fun e => by simp at e, fun ⟨j, hj, hjm⟩ => ?_⟩
        rw [hA] at hjm
        split at hjm
        · simp at hjm
        · rename_i hne
          rw [hL] at hm
          exact absurd (h.apart i j t hi hj hm hjm) hne
      · rw [if_neg hm, h.has t ht]
        constructor
        · rintro ⟨j, hj, hjm⟩
          refine ⟨j, hj, ?_⟩
          rw [hA, if_neg (fun e => hm (by rw [hL, e]; exact hjm))]
          exact hjm
        · rintro ⟨j, hj, hjm⟩
          rw [hA] at hjm
          split at hjm
          · simp at hjm
          · exact ⟨j, hj, hjm⟩
    · rw [hA] at m1 m2
      split at m1
      · simp at m1
      · split at m2
        · simp at m2
        · exact h.apart j k t hj hk m1 m2
end Go.Proofs.YtlfbelocdpboeaaGreatDoor
namespace Go.Proofs.YtlfbelocdpboeaaGreatDoor
set_option linter.unusedVariables false
set_option linter.unusedSimpArgs false
open Go.RowKit
/-- a piece that is there -/
structure Pc (p : PoolF) (x : Hd) (i o l : Nat) : Prop where
  there : (landAt p i).there = true
  hi : i < 256
  reg : x.region = (i : Int)
  gen : x.gen = ((landAt p i).gen : Int)
  off : x.off = (o : Int)
  len : x.len = (l : Int)
  one : 1 ≤ l
  fit : o + l ≤ (landAt p i).fill
  ins : o % p.size + l ≤ p.size
def slabOf (p : PoolF) (i o : Nat) : Nat := (landAt p i).slabs.getD (o / p.size) 0
section
variable {p p' : PoolF} {x y : Hd} {i j o l o2 l2 s : Nat}
theorem Pc.piece (h : Pc p x i o l) : pieceF p x = ((slabOf p i o, o % p.size), 0) := by
  obtain ⟨r, gn, of, ln⟩ := x
  obtain ⟨h1, h2, e1, e2, e3, e4, h3, h4, h5⟩ := h
  simp only at e1 e2 e3 e4
  subst e1 e2 e3 e4
  unfold pieceF
  rw [landF_of h2 h1]
  simp only
  rw [if_neg (by simp), if_neg (by omega), Int.toNat_natCast, Int.toNat_natCast, if_neg (by omega)]
  rfl
theorem Pc.of (hp : PoolOk p) {s k : Nat} (h : pieceF p x = ((s, k), 0)) : ∃ i o l, Pc p x i o l := by
  obtain ⟨i, o, l, h1, hi, e2, e3, e4, e5, hl1, hf, h2, h3, h4, hkl, hs⟩ := pieceF_ok hp h
  exact ⟨i, o, l, (landF_some h1).2.2, hi, e4, e5, e2, e3, hl1, hf, by rw [← h4]; exact hkl⟩
theorem Pc.slab (hp : PoolOk p) (h : Pc p x i o l) : o / p.size < (landAt p i).slabs.length ∧ (landAt p i).slabs[o / p.size]? = some (slabOf p i o) ∧ slabOf p i o < p.bytes.length := by
  have hl := hp.ld i h.hi
  have h1 := hl.fill_le
  have h2 := h.fit
  have h3 := h.one
  have hs := hp.s1
  have hlt : o / p.size < (landAt p i).slabs.length := by rw [Nat.div_lt_iff_lt_mul (by omega)]; omega
  have he : (landAt p i).slabs[o / p.size]? = some (slabOf p i o) := by
    unfold slabOf; rw [List.getD_eq_getElem?_getD, List.getElem?_eq_getElem hlt]; rfl
  exact ⟨hlt, he, hl.lt _ (List.mem_of_getElem? he)⟩
theorem Pc.load (h : Pc p x i o l) : loadF p x = (((bytesAt p (slabOf p i o)).drop (o % p.size)).take l, 0) := by
  rw [loadF_ok h.piece, h.len, Int.toNat_natCast]
theorem Pc.load_len (hp : PoolOk p) (h : Pc p x i o l) : (loadF p x).1.length = l := by
  obtain ⟨_, _, hs⟩ := h.slab hp
  have h1 := bytesAt_len hp hs
  have h2 := h.ins
  rw [h.load, List.length_take, List.length_drop]; omega
/-- the lands stand as they stood, but that some have more slabs and are handed out further -/
structure Grew (p p' : PoolF) (i : Nat) : Prop where
  there : (landAt p' i).there = (landAt p i).there
  gen : (landAt p' i).gen = (landAt p i).gen
  slabs : ∃ t, (landAt p' i).slabs = (landAt p i).slabs ++ t
  fill : (landAt p i).fill ≤ (landAt p' i).fill
theorem Grew.refl (p : PoolF) (i : Nat) : Grew p p i := ⟨rfl, rfl, ⟨[], (List.append_nil _).symm⟩, Nat.le_refl _⟩
theorem Pc.grew (hp : PoolOk p) (h : Pc p x i o l) (g : Grew p p' i) (hs : p'.size = p.size) : Pc p' x i o l ∧ slabOf p' i o = slabOf p i o := by
  obtain ⟨t, ht⟩ := g.slabs
  obtain ⟨h1, h2, _⟩ := h.slab hp
  refine ⟨⟨g.there.trans h.there, h.hi, h.reg, by rw [h.gen, g.gen], h.off, h.len, h.one, Nat.le_trans h.fit g.fill, by rw [hs]; exact h.ins⟩, ?_⟩
  unfold slabOf
  rw [hs, ht, List.getD_eq_getElem?_getD, List.getElem?_append_left h1, ← List.getD_eq_getElem?_getD]
theorem Pc.kept (hp : PoolOk p) (h : Pc p x i o l) (g : Grew p p' i) (hs : p'.size = p.size) (hb : bytesAt p' (slabOf p i o) = bytesAt p (slabOf p i o)) : Pc p' x i o l ∧ loadF p' x = loadF p x := by
  obtain ⟨h1, h2⟩ := h.grew hp g hs
  refine ⟨h1, ?_⟩
  rw [h1.load, h.load, h2, hb, hs]
/-- Alloc that is answered -/
theorem alloc_pcs (hp : PoolOk p) {r n a : Int} (he : allocF p r n a = (y, 0, p')) :
    ∃ i o : Nat, landF p r = some i ∧ Pc p' y i o n.toNat ∧ (n.toNat : Int) = n ∧ (landAt p i).fill ≤ o ∧ p'.size = p.size ∧ p'.bytes.length = p.bytes.length ∧ (∀ j, j < 256 → Grew p p' j) ∧ (∀ x j o l, Pc p x j o l → Pc p' x j o l ∧ loadF p' x = loadF p x) ∧ (landAt p' i).fill = o + n.toNat ∧ o % p.size % a.toNat = 0 := by
  have hok := alloc_ok hp r n a
  have hs1 := hp.s1
  unfold allocF at he
  cases hl : landF p r with
  | none => rw [hl] at he; simp at he
  | some i =>
    obtain ⟨e0, hi, hth⟩ := landF_some hl
    rw [hl] at he
    simp only at he
    split at he
    · simp at he
    · rename_i hb
      have hn1 : 1 ≤ n.toNat := by omega
      have hn2 : n.toNat ≤ p.size := by omega
      have hn3 : ((n.toNat : Nat) : Int) = n := by omega
      split at he
      · cases hid : idleF p with
        | none => rw [hid] at he; simp at he
        | some s =>
          rw [hid] at he
          simp only [Prod.mk.injEq, true_and] at he
          obtain ⟨ey, ep⟩ := he
          obtain ⟨hst, h0, _⟩ := idleF_some hid
          have hsb : s < p.bytes.length := by rw [← hp.tk]; exact hst
          have hA : ∀ j, landAt p' j = if i = j then ⟨(landAt p i).there, (landAt p i).gen, (landAt p i).slabs ++ [s], (landAt p i).slabs.length * p.size + n.toNat⟩ else landAt p j := fun j => by
            rw [← ep, landAt_fill (grow_lands hp i s) hi, landAt_grow hp hi, landAt_grow hp hi, if_pos rfl]
            split <;> rfl
          have hsz : p'.size = p.size := by rw [← ep]; rfl
          have hbl : p'.bytes.length = p.bytes.length := by rw [← ep]; exact List.length_set
          have hfl := (hp.ld i hi).fill_le
          have hgrew : ∀ j, j < 256 → Grew p p' j := fun j _ => by
            by_cases e : i = j
            · subst e
              have := hA i
              rw [if_pos rfl] at this
              refine ⟨by rw [this], by rw [this], ⟨[s], by rw [this]⟩, by rw [this]; show (landAt p i).fill ≤ (landAt p i).slabs.length * p.size + n.toNat; omega⟩
            · have := hA j
              rw [if_neg e] at this
              exact ⟨by rw [this], by rw [this], ⟨[], by rw [this, List.append_nil]⟩, by rw [this]; exact Nat.le_refl _⟩
          have hAi := hA i
          rw [if_pos rfl] at hAi
          have hmod : (landAt p i).slabs.length * p.size % p.size = 0 := Nat.mul_mod_left _ _
          refine ⟨i, (landAt p i).slabs.length * p.size, rfl, ⟨by rw [hAi]; exact hth, hi, by rw [← ey], by rw [← ey, hAi], by rw [← ey], by rw [← ey]; exact hn3.symm, hn1, by rw [hAi]; exact Nat.le_refl _, by rw [hsz, hmod]; omega⟩, hn3, hfl, hsz, hbl, hgrew, fun x j o l hx => ?_, by rw [hAi], by rw [hmod]; exact Nat.zero_mod _⟩
          refine hx.kept hp (hgrew j hx.hi) hsz ?_
          obtain ⟨_, hm, _⟩ := hx.slab hp
          have hne : slabOf p j o ≠ s := fun e => by
            have := (hp.has s hsb).2 ⟨j, hx.hi, e ▸ List.mem_of_getElem? hm⟩
            rw [h0] at this; cases this
          rw [← ep]
          show (p.bytes.set s _).getD _ [] = p.bytes.getD _ []
          simp only [List.getD_eq_getElem?_getD, List.getElem?_set]
          rw [if_neg (fun e => hne e.symm)]
      · rename_i hg
        have hne : (landAt p i).slabs ≠ [] := fun e => hg (.inl e)
        have hfit : ¬ p.size < upTo (inF p i) a.toNat + n.toNat := fun e => hg (.inr e)
        simp only [Prod.mk.injEq, true_and] at he
        obtain ⟨ey, ep⟩ := he
        obtain ⟨_, hin⟩ := inF_bounds hp hi
        obtain ⟨hfe, _⟩ := hin hne
        have ha := alignOk_range (a := a) (by cases hk : alignOk a with | true => rfl | false => exact absurd (.inr (.inr hk)) hb)
        have hup := (upTo_bounds (x := inF p i) (a := a.toNat) (by omega)).1
        have hA := fun j => landAt_fill (p := p) hp.ln hi (((landAt p i).slabs.length - 1) * p.size + upTo (inF p i) a.toNat + n.toNat) j
        rw [ep] at hA
        have hsz : p'.size = p.size := by rw [← ep]; rfl
        have hAi := hA i
        rw [if_pos rfl] at hAi
        have hgrew : ∀ j, j < 256 → Grew p p' j := fun j _ => by
          by_cases e : i = j
          · subst e
            exact ⟨by rw [hAi], by rw [hAi], ⟨[], by rw [hAi, List.append_nil]⟩, by rw [hAi]; show (landAt p i).fill ≤ _ + n.toNat; omega⟩
          · have := hA j
            rw [if_neg e] at this
            exact ⟨by rw [this], by rw [this], ⟨[], by rw [this, List.append_nil]⟩, by rw [this]; exact Nat.le_refl _⟩
        have hmod : (((landAt p i).slabs.length - 1) * p.size + upTo (inF p i) a.toNat) % p.size = upTo (inF p i) a.toNat := by
          rw [Nat.add_comm, Nat.add_mul_mod_self_right, Nat.mod_eq_of_lt (by omega)]
        refine ⟨i, ((landAt p i).slabs.length - 1) * p.size + upTo (inF p i) a.toNat, rfl, ⟨by rw [hAi]; exact hth, hi, by rw [← ey], by rw [← ey, hAi], by rw [← ey], by rw [← ey]; exact hn3.symm, hn1, by rw [hAi]; exact Nat.le_refl _, by rw [hsz, hmod]; omega⟩, hn3, by omega, hsz, by rw [← ep]; rfl, hgrew, fun x j o l hx => hx.kept hp (hgrew j hx.hi) hsz (by rw [← ep]; rfl), by rw [hAi], ?_⟩
        rw [hmod]
        unfold upTo
        exact Nat.mul_mod_left _ _
end
theorem splice_get (B b : List UInt8) (k n : Nat) (h : k + b.length ≤ B.length) (m : Nat) : (B.take k ++ b ++ B.drop (k + b.length))[m]? = if k ≤ m ∧ m < k + b.length then b[m - k]? else B[m]? := by
  have h1 : (B.take k).length = k := by rw [List.length_take]; omega
  by_cases c1 : m < k
  · rw [if_neg (by omega), List.append_assoc, List.getElem?_append_left (by omega), List.getElem?_take, if_pos c1]
  · by_cases c2 : m < k + b.length
    · rw [if_pos ⟨by omega, c2⟩, List.append_assoc, List.getElem?_append_right (by omega), h1, List.getElem?_append_left (by omega)]
    · rw [if_neg (by omega), List.getElem?_append_right (by rw [List.length_append, h1]; omega), List.length_append, h1, List.getElem?_drop]
      congr 1; omega
theorem part_get (B : List UInt8) (k l m : Nat) : ((B.drop k).take l)[m]? = if m < l then B[k + m]? else none := by
  rw [List.getElem?_take, List.getElem?_drop]
theorem part_in (B b : List UInt8) (k t l : Nat) (h1 : t + b.length ≤ l) (h2 : k + l ≤ B.length) :
    ((B.take (k + t) ++ b ++ B.drop (k + t + b.length)).drop k).take l = ((B.drop k).take l).take t ++ b ++ ((B.drop k).take l).drop (t + b.length) := by
  have hlen : ((B.drop k).take l).length = l := by rw [List.length_take, List.length_drop]; omega
  apply List.ext_getElem?
  intro m
  rw [part_get, splice_get _ _ _ 0 (by omega), splice_get _ _ _ 0 (by omega), part_get]
  by_cases c : m < l
  · rw [if_pos c, if_pos c]
    by_cases c2 : t ≤ m ∧ m < t + b.length
    · rw [if_pos (by omega), if_pos c2]; congr 1; omega
    · rw [if_neg (by omega), if_neg c2]
  · rw [if_neg c, if_neg c, if_neg (by omega)]
theorem part_out (B b : List UInt8) (k k2 l2 : Nat) (h1 : k + b.length ≤ B.length) (h : k + b.length ≤ k2 ∨ k2 + l2 ≤ k) :
    ((B.take k ++ b ++ B.drop (k + b.length)).drop k2).take l2 = (B.drop k2).take l2 := by
  apply List.ext_getElem?
  intro m
  rw [part_get, part_get, splice_get _ _ _ 0 h1]
  by_cases c : m < l2
  · rw [if_pos c, if_pos c, if_neg (by omega)]
  · rw [if_neg c, if_neg c]
section
variable {p p' : PoolF} {x y : Hd} {i j o l o2 l2 s : Nat}
theorem Pc.same_slab (hp : PoolOk p) (h : Pc p x i o l) (k : Pc p y j o2 l2) (e : slabOf p i o = slabOf p j o2) : i = j ∧ o / p.size = o2 / p.size := by
  obtain ⟨a1, a2, a3⟩ := h.slab hp
  obtain ⟨b1, b2, b3⟩ := k.slab hp
  have hij : i = j := hp.apart i j _ h.hi k.hi (List.mem_of_getElem? a2) (e ▸ List.mem_of_getElem? b2)
  subst hij
  refine ⟨rfl, ?_⟩
  rw [← e] at b2
  exact (List.getElem?_inj a1 (hp.ld i h.hi).nodup).1 (a2.trans b2.symm)
/-- Store into a piece -/
theorem store_pcs (hp : PoolOk p) (hx : Pc p x i o l) (t : Nat) (b : List UInt8) (h : t + b.length ≤ l) : ∃ p', storeF p x (t : Int) b = (0, p') ∧ p'.size = p.size ∧ p'.bytes.length = p.bytes.length ∧ p'.taken = p.taken ∧ p'.lands = p.lands ∧
    loadF p' x = ((loadF p x).1.take t ++ b ++ (loadF p x).1.drop (t + b.length), 0) ∧ (∀ y j o2 l2, Pc p y j o2 l2 → Pc p' y j o2 l2 ∧ ((i ≠ j ∨ o + l ≤ o2 ∨ o2 + l2 ≤ o) → loadF p' y = loadF p y)) := by
  obtain ⟨q1, q2, q3⟩ := hx.slab hp
  have hlen := hx.len
  have hins := hx.ins
  have hbl := bytesAt_len hp q3
  have hb : ¬ ((t : Int) < 0 ∨ (t : Int) > x.len ∨ (b.length : Int) > x.len - (t : Int)) := by rw [hlen]; omega
  have he := storeF_ok hx.piece hb
  rw [Int.toNat_natCast] at he
  have hg : ∀ j, Grew p (setBytes p (slabOf p i o) ((bytesAt p (slabOf p i o)).take (o % p.size + t) ++ b ++ (bytesAt p (slabOf p i o)).drop (o % p.size + t + b.length))) j := fun j => ⟨rfl, rfl, ⟨[], (List.append_nil _).symm⟩, Nat.le_refl _⟩
  refine ⟨_, he, rfl, List.length_set, rfl, rfl, ?_, fun y j o2 l2 hy => ⟨(hy.grew hp (hg j) rfl).1, fun hd => ?_⟩⟩
  · obtain ⟨h1, h2⟩ := hx.grew hp (hg i) rfl
    rw [h1.load, h2, bytesAt_set _ _ _ _ q3, if_pos rfl, hx.load]
    show (((_ : List UInt8).drop (o % p.size)).take l, 0) = _
    rw [part_in _ _ _ _ _ h (by rw [hbl]; exact hins)]
  · obtain ⟨h1, h2⟩ := hy.grew hp (hg j) rfl
    rw [h1.load, h2, bytesAt_set _ _ _ _ q3, hy.load]
    by_cases e : slabOf p i o = slabOf p j o2
    · rw [if_pos e]
      obtain ⟨hij, hq⟩ := hx.same_slab hp hy e
      have d1 := Nat.div_add_mod o p.size
      have d2 := Nat.div_add_mod o2 p.size
      rw [hq] at d1
      show (((_ : List UInt8).drop (o2 % p.size)).take l2, 0) = _
      have hy2 := hy.one
      rw [part_out _ _ _ _ _ (by rw [hbl]; omega) (by
        rcases hd with hd | hd | hd
        · exact absurd hij hd
        · left; omega
        · right; omega), e]
    · rw [if_neg e]
      rfl
/-- Make -/
theorem make_pcs (hp : PoolOk p) {r : Nat} (he : makeR p = (r, 0, p')) : r < 256 ∧ (landAt p r).there = false ∧ (∀ j, j < r → (landAt p j).there = true) ∧ p'.size = p.size ∧ p'.bytes = p.bytes ∧ p'.taken = p.taken ∧ landAt p' r = ⟨true, (landAt p r).gen + 1, [], 0⟩ ∧ (∀ j, j ≠ r → landAt p' j = landAt p j) ∧
    ∀ x j o l, Pc p x j o l → j ≠ r ∧ Pc p' x j o l ∧ loadF p' x = loadF p x := by
  unfold makeR at he
  cases hm : makeF p with
  | none => rw [hm] at he; simp at he
  | some i =>
    rw [hm] at he
    simp only [Prod.mk.injEq, true_and] at he
    obtain ⟨rfl, ep⟩ := he
    obtain ⟨hi, h0, h1⟩ := makeF_some hm
    have hA : ∀ j, landAt p' j = if i = j then ⟨true, (landAt p i).gen + 1, [], 0⟩ else landAt p j := fun j => by rw [← ep]; exact landAt_set p i j _ (by rw [hp.ln]; exact hi)
    have hAj : ∀ j, j ≠ i → landAt p' j = landAt p j := fun j hj => by rw [hA, if_neg (fun e => hj e.symm)]
    refine ⟨hi, h0, h1, by rw [← ep]; rfl, by rw [← ep]; rfl, by rw [← ep]; rfl, by rw [hA, if_pos rfl], hAj, fun x j o l hx => ?_⟩
    have hj : j ≠ i := fun e => by have := hx.there; rw [e, h0] at this; cases this
    refine ⟨hj, hx.kept hp ⟨by rw [hAj j hj], by rw [hAj j hj], ⟨[], by rw [hAj j hj, List.append_nil]⟩, by rw [hAj j hj]; exact Nat.le_refl _⟩ (by rw [← ep]; rfl) (by rw [← ep]; rfl)⟩
/-- Free -/
theorem free_pcs (hp : PoolOk p) {r : Nat} (hr : r < 256) (hth : (landAt p r).there = true) : ∃ p', freeF p (r : Int) = (0, p') ∧ p'.size = p.size ∧ p'.bytes.length = p.bytes.length ∧ landAt p' r = ⟨false, (landAt p r).gen, [], 0⟩ ∧ (∀ j, j ≠ r → landAt p' j = landAt p j) ∧
    (∀ t, t ∈ (landAt p r).slabs → bytesAt p' t = List.replicate p.size 0xDD) ∧ (∀ t, t ∉ (landAt p r).slabs → bytesAt p' t = bytesAt p t) ∧ (∀ t, p'.taken.getD t false = if t ∈ (landAt p r).slabs then false else p.taken.getD t false) ∧
    ∀ x j o l, Pc p x j o l → j ≠ r → Pc p' x j o l ∧ loadF p' x = loadF p x := by
  have he : freeF p (r : Int) = (0, { freeSlabs p (landAt p r).slabs with lands := p.lands.set r ⟨false, (landAt p r).gen, [], 0⟩ }) := by unfold freeF; rw [landF_of hr hth]
  have hA := fun j => landAt_free hp hr (landAt p r).slabs ⟨false, (landAt p r).gen, [], 0⟩ j
  have hAj : ∀ j, j ≠ r → landAt { freeSlabs p (landAt p r).slabs with lands := p.lands.set r ⟨false, (landAt p r).gen, [], 0⟩ } j = landAt p j := fun j hj => by rw [hA, if_neg (fun e => hj e.symm)]
  have hlt := (hp.ld r hr).lt
  have hb2 : ∀ t, t ∉ (landAt p r).slabs → bytesAt { freeSlabs p (landAt p r).slabs with lands := p.lands.set r ⟨false, (landAt p r).gen, [], 0⟩ } t = bytesAt p t := fun t ht => by
    by_cases hl : t < p.bytes.length
    · have := foldl_set_get (List.replicate p.size (0xDD : UInt8)) [] (landAt p r).slabs p.bytes t hl
      rw [if_neg ht] at this
      exact this
    · unfold bytesAt
      rw [List.getD_eq_getElem?_getD, List.getD_eq_getElem?_getD, List.getElem?_eq_none (by rw [(freeSlabs_len p (landAt p r).slabs).1]; omega), List.getElem?_eq_none (by omega)]
  refine ⟨_, he, rfl, (freeSlabs_len p _).1, by rw [hA, if_pos rfl], hAj, fun t ht => ?_, hb2, fun t => foldl_set_bool _ _ _, fun x j o l hx hj => ?_⟩
  · have := foldl_set_get (List.replicate p.size (0xDD : UInt8)) [] (landAt p r).slabs p.bytes t (hlt t ht)
    rw [if_pos ht] at this
    exact this
  · obtain ⟨q1, q2, q3⟩ := hx.slab hp
    refine hx.kept hp ⟨by rw [hAj j hj], by rw [hAj j hj], ⟨[], by rw [hAj j hj, List.append_nil]⟩, by rw [hAj j hj]; exact Nat.le_refl _⟩ rfl (hb2 _ (fun hm => hj (hp.apart j r _ hx.hi hr (List.mem_of_getElem? q2) hm)))
theorem alloc_cases {r i : Nat} {n a : Int} (hl : landF p (r : Int) = some i) (h1 : 1 ≤ n) (h2 : n ≤ (p.size : Int)) (ha : alignOk a = true) : (∃ y p', allocF p (r : Int) n a = (y, 0, p')) ∨ (allocF p (r : Int) n a = (noHd, 5, p) ∧ idleF p = none) := by
  unfold allocF
  rw [hl]
  simp only
  rw [if_neg (by rw [ha]; simp; omega)]
  split
  · cases hid : idleF p with
    | none => exact .inr ⟨rfl, rfl⟩
    | some s => exact .inl ⟨_, _, rfl⟩
  · exact .inl ⟨_, _, rfl⟩
theorem stale_load (h : landF p x.region = none ∨ ∃ i, landF p x.region = some i ∧ ((landAt p i).gen : Int) ≠ x.gen) : pieceF p x = ((0, 0), 3) := by
  unfold pieceF
  rcases h with h | ⟨i, h, hg⟩
  · rw [h]
  · rw [h]; simp only; rw [if_pos hg]
end
end Go.Proofs.YtlfbelocdpboeaaGreatDoor
