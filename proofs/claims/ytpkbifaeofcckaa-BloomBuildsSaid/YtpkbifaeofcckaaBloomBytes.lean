/- Layer 6 (bloom): the reference's bits, as bytes. -/
import Derived.Test.YtpkbifaeofcckaaBloomLaw2
namespace Go.Proofs.Ytpkbifaeofcckaa
set_option linter.unusedVariables false
set_option linter.unusedSimpArgs false
open Go.RowKit Bloom
theorem elemBool : Elem Try.prog 43 4 (.bool false) 1 1 := ⟨by kernel_rfl, by kernel_rfl, rfl, by decide⟩
def rowB (on : Nat → Bool) (b : Nat) : List Value := (List.range b).map fun p => .bool (on p)
theorem rowB_len (on : Nat → Bool) (b : Nat) : (rowB on b).length = b := by simp [rowB]
theorem rowB_get (on : Nat → Bool) (b p : Nat) (h : p < b) : (rowB on b)[p]? = some (.bool (on p)) := by simp [rowB, h]
theorem rowB_set (on : Nat → Bool) (b p : Nat) (h : p < b) : (rowB on b).set p (.bool true) = rowB (addB on p) b := by
  apply List.ext_getElem?
  intro i
  rw [List.getElem?_set]
  by_cases e : p = i
  · subst e
    rw [if_pos rfl, if_pos (by rw [rowB_len]; exact h), rowB_get _ _ _ h]
    simp [addB]
  · rw [if_neg e]
    by_cases hi : i < b
    · rw [rowB_get _ _ _ hi, rowB_get _ _ _ hi]
      unfold addB
      have : (i == p) = false := by rw [beq_eq_false_iff_ne]; exact fun k => e k.symm
      simp [this]
    · rw [List.getElem?_eq_none (by rw [rowB_len]; omega), List.getElem?_eq_none (by rw [rowB_len]; omega)]
theorem rowB_none (b : Nat) : List.replicate b (Value.bool false) = rowB (fun _ => false) b := by
  apply List.ext_getElem?
  intro i
  by_cases hi : i < b
  · rw [rowB_get _ _ _ hi]; simp [hi]
  · rw [List.getElem?_eq_none (by simp; omega), List.getElem?_eq_none (by rw [rowB_len]; omega)]
/-- the bits below a place -/
def belowB (on : Nat → Bool) (i : Nat) : Nat → Bool := fun p => on p && decide (p < i)
theorem below_off {on : Nat → Bool} {i : Nat} (h : on i = false) : belowB on (i + 1) = belowB on i := by
  funext p
  unfold belowB
  by_cases e : p = i
  · subst e; simp [h]
  · have : (p < i + 1) ↔ p < i := by omega
    simp [this]
theorem below_on {on : Nat → Bool} {i : Nat} (h : on i = true) : belowB on (i + 1) = addB (belowB on i) i := by
  funext p
  unfold belowB addB
  by_cases e : p = i
  · subst e; simp [h]
  · have : (p < i + 1) ↔ p < i := by omega
    have e2 : (p == i) = false := by rw [beq_eq_false_iff_ne]; exact e
    simp [this, e2]
theorem below_zero (on : Nat → Bool) : belowB on 0 = fun _ => false := by funext p; simp [belowB]
theorem below_all (on : Nat → Bool) (n : Nat) : rowF (belowB on (8 * n)) n = rowF on n := row_congr fun p hp => by simp [belowB, hp]
theorem below_byte (on : Nat → Bool) (i : Nat) : byteN (belowB on i) (i / 8) 8 + 2 ^ (i % 8) = byteN (belowB on i) (i / 8) 8 ||| 2 ^ (i % 8) ∧ byteN (belowB on i) (i / 8) 8 < 2 ^ (i % 8) := by
  have h1 : byteN (belowB on i) (i / 8) 8 = byteN (belowB on i) (i / 8) (i % 8) := byteN_cut (by omega) (fun r h1 h2 => by
    unfold belowB
    have : ¬ 8 * (i / 8) + r < i := by omega
    simp [this])
  have h2 := byteN_lt (belowB on i) (i / 8) (i % 8)
  rw [h1]
  refine ⟨?_, h2⟩
  apply Nat.eq_of_testBit_eq
  intro r
  rw [Nat.testBit_or, Nat.testBit_two_pow]
  have e : byteN (belowB on i) (i / 8) (i % 8) + 2 ^ (i % 8) = 2 ^ (i % 8) * 1 + byteN (belowB on i) (i / 8) (i % 8) := by omega
  rw [e, Nat.testBit_two_pow_mul_add _ h2]
  by_cases h3 : r < i % 8
  · have : ¬ i % 8 = r := by omega
    simp [h3, this]
  · rw [if_neg h3]
    have hz : (byteN (belowB on i) (i / 8) (i % 8)).testBit r = false := Nat.testBit_lt_two_pow (Nat.lt_of_lt_of_le h2 (Nat.pow_le_pow_right (by decide) (by omega)))
    rw [hz, Bool.false_or, Bool.eq_iff_iff, decide_eq_true_iff, Nat.testBit_one_eq_true_iff_self_eq_zero]
    omega
set_option maxRecDepth 100000 in
set_option maxHeartbeats 1000000 in
theorem rbytes_any (ad : Option Addr) (cap n : Nat) (on : Nat → Bool) (w : World) (hn : n ≤ 1000000) (hr : Row w ad (rowB on (8 * n))) :
    Calls Try.prog 20 #[.slice ad (8 * n) cap] w (RetB 5 w (rowF on n)) := by
  have hm1 : n ≤ maxLen := by unfold maxLen; omega
  have hm2 : 1 * n ≤ 281474976710656 := by omega
  go_enter Try.func20, Try.ntmps20
  go_wp2_with (at_make; go_must (refine wp_make elemB rfl rfl _ _ rfl n n rfl rfl (by omega) (by omega) (Nat.le_refl n) hm1 hm2 ?_); intro w1 o1 g1 z1)
  have hL : ∀ wr, Gr w1 wr → Row wr ad (rowB on (8 * n)) := fun wr g => hr.gr (g1.trans g)
  have HR := Lib.hid hr
  have o2 := o1
  rw [bv_replicate, zero_row, ← below_zero on] at o2
  clear o1 z1 hr hL
  have hne : ∀ k, k < w.heap.size → k ≠ w.heap.size := fun k h => by omega
  go_loopw [4] (fun i wr => ∃ j : Nat, j ≤ 8 * n ∧ i = .int .i64 (j : Int) ∧ Owns wr w.heap.size 5 1 (some ⟨w.heap.size, 0, none⟩) n n (bv (rowF (belowB on j) n)) ∧ Gr w wr) (fun i _ => 8 * n - (intOf i).toNat)
  case atStart => exact ⟨0, Nat.zero_le _, rfl, o2, g1⟩
  case round =>
    obtain ⟨j, hj, rfl, ho, hg⟩ := hrel
    by_cases hlt : j < 8 * n
    · obtain ⟨b0, off, rfl, hcw⟩ := HR.out j _ (rowB_get on (8 * n) j hlt)
      have hc := hg.cell hcw
      clear hcw
      cases hon : on j with
      | false =>
        rw [hon] at hc
        have HB := Lib.hid (below_off hon)
        clear hon
        go_wp2
        go_roundw
        case rel => exact ⟨j + 1, by omega, by go_num, by rw [HB.out]; exact ho, hg⟩
        case measure => simp [intOf]; omega
      | true =>
        rw [hon] at hc
        have HB := Lib.hid (below_on hon)
        clear hon
        have hq : j / 8 < n := by omega
        obtain ⟨_, e0, _, hcb⟩ := ho.at (bv_get (rowF (belowB on j) n) (j / 8) (by rw [rowF_len]; exact hq))
        cases e0
        rw [rowF_get] at hcb
        have hf := ho.unfrozen (i := j / 8) rfl (by omega)
        have hbb := below_byte on j
        have hpow : 2 ^ (j % 8) < 256 := Nat.pow_lt_pow_right (by decide) (show j % 8 < 8 by omega)
        have hyn : (UInt8.ofNat (byteN (belowB on j) (j / 8) 8 + 2 ^ (j % 8))).toNat = byteN (belowB on j) (j / 8) 8 ||| 2 ^ (j % 8) := by
          have h3 : byteN (belowB on j) (j / 8) 8 + 2 ^ (j % 8) < 256 := by
            rw [hbb.1]
            exact Nat.or_lt_two_pow (n := 8) (byteN_lt _ _ 8) hpow
          rw [UInt8.toNat_ofNat', Nat.mod_eq_of_lt h3, hbb.1]
        have hrs := row_set (belowB on j) n j hq _ hyn
        have ho2 := ho.store rfl hq (.int .u8 ((UInt8.ofNat (byteN (belowB on j) (j / 8) 8 + 2 ^ (j % 8))).toNat : Int))
        rw [bv_set, hrs, ← HB.out] at ho2
        have hval : ((byteF (belowB on j) (j / 8)).toNat : Int) + 2 ^ (j % 8) = ((UInt8.ofNat (byteN (belowB on j) (j / 8) 8 + 2 ^ (j % 8))).toNat : Int) := by
          rw [hyn, ← hbb.1, byteF_nat]; simp
        have hvlt := (UInt8.ofNat (byteN (belowB on j) (j / 8) 8 + 2 ^ (j % 8))).toNat_lt
        generalize UInt8.ofNat (byteN (belowB on j) (j / 8) 8 + 2 ^ (j % 8)) = y at *
        generalize byteF (belowB on j) (j / 8) = z at *
        have e1 : (j : Int).tdiv 8 = (j : Int) / 8 := Int.tdiv_eq_ediv_of_nonneg (by omega)
        have e2 : IntKind.i64.wrap ((j : Int) / 8) = (j : Int) / 8 := IntWalk.i64_in _ ⟨by omega, by omega⟩
        have e3 : ((j : Int) / 8).toNat = j / 8 := by omega
        have e4 : (j : Int).tmod 8 = (j : Int) % 8 := Int.tmod_eq_emod_of_nonneg (by omega)
        have e5 : IntKind.i64.wrap ((j : Int) % 8) = (j : Int) % 8 := IntWalk.i64_in _ ⟨by omega, by omega⟩
        have e6 : ((j : Int) % 8).toNat = j % 8 := by omega
        have b1 : 0 ≤ (j : Int) / 8 := by omega
        have b2 : (j : Int) / 8 < (n : Int) := by omega
        have b3 : 0 ≤ (j : Int) % 8 := by omega
        have HE := Lib.hid e1; have E2 := Lib.hid e2; have E3 := Lib.hid e3; have E4 := Lib.hid e4; have E5 := Lib.hid e5; have E6 := Lib.hid e6
        have HV := Lib.hid hval; have HP := Lib.hid hpow
        clear e1 e2 e3 e4 e5 e6 hbb hyn hrs hval hpow
        go_wp2
        have e1 := HE.out; have e2 := E2.out; have e3 := E3.out; have e4 := E4.out; have e5 := E5.out; have e6 := E6.out
        go_still_tail 13, (by kernel_rfl)
        clear e1 e2 e3 e4 e5 e6
        go_wp2
        go_roundw
        case rel =>
          have hv : ((z.toNat : Int) + 2 ^ (j % 8)) % 256 = (y.toNat : Int) := by
            rw [HV.out]
            have : y.toNat < 256 := y.toNat_lt
            omega
          rw [hv]
          exact ⟨j + 1, by omega, by go_num, ho2.gr (Gr.drew _), (hg.setCell (Nat.le_refl _) _).trans (Gr.drew _)⟩
        case measure => simp [intOf]; omega
    · obtain rfl : j = 8 * n := by omega
      rw [below_all] at ho
      have hl := rowF_len on n
      go_wp2
      go_ret
      exact ⟨_, n, by rw [hl]; rfl, by rw [hl]; exact ho, hg⟩
set_option maxRecDepth 100000 in
set_option maxHeartbeats 2000000 in
theorem rDocBuild_any (ad : Option Addr) (cap : Nat) (keys : List (List UInt8)) (bits : Int) (w : World) (hm : keys.length ≤ 100000) (hr : Row w ad (sv keys)) (hsh : Short keys) (h1 : -9223372036854775808 ≤ bits) (h2 : bits ≤ 9223372036854775807) :
    Calls Try.prog 13 #[.slice ad keys.length cap, .int .i64 bits] w fun e w' => e = .returned (.tuple #[.string (str (buildF keys bits).1), .int .i64 ((buildF keys bits).2 : Nat)]) ∧ Gr w w' := by
  by_cases hb : bits < 1 ∨ 64 < bits
  · have H := Lib.hid (show buildF keys bits = ([], 1) by unfold buildF; rw [if_pos hb])
    rcases hb with hb | hb
    all_goals
      go_enter Try.func13, Try.ntmps13
      go_wp2
      go_ret2
      exact ⟨by rw [H.out]; rfl, Gr.refl _⟩
  · obtain ⟨b, rfl⟩ := Int.eq_ofNat_of_zero_le (show 0 ≤ bits by omega)
    have hb1 : 1 ≤ b := by omega
    have hb2 : b ≤ 64 := by omega
    clear h1 h2
    rw [build_good hb1 hb2 hm]
    clear hb
    have hprod : keys.length * b ≤ 100000 * 64 := Nat.mul_le_mul hm hb2
    have hp0 : 0 ≤ (keys.length : Int) * (b : Int) := Int.mul_nonneg (by omega) (by omega)
    have hp1 : (keys.length : Int) * (b : Int) ≤ 6400000 := by have h3 : ((keys.length * b : Nat) : Int) ≤ 6400000 := (by omega); rw [Int.natCast_mul] at h3; exact h3
    have hN : ((nF keys.length b : Nat) : Int) = (max ((keys.length : Int) * (b : Int)) 64 + 7) / 8 := by
      unfold nF
      have h3 : ((keys.length * b : Nat) : Int) = (keys.length : Int) * (b : Int) := Int.natCast_mul _ _
      omega
    have hn8 : 8 ≤ nF keys.length b := by unfold nF; omega
    have hn9 : nF keys.length b ≤ 800001 := by unfold nF; omega
    have hK : ((kF b : Nat) : Int) = min (max ((b : Int) * 69 / 100) 1) 30 := by unfold kF; omega
    have hk1 : 1 ≤ kF b := by unfold kF; omega
    have hk2 : kF b ≤ 30 := by unfold kF; omega
    have HF := Lib.hid (show filterF keys b = rowF (onF keys (8 * nF keys.length b) (kF b)) (nF keys.length b) ++ [UInt8.ofNat (kF b)] from rfl)
    generalize nF keys.length b = n at *
    generalize kF b = k at *
    have HN := Lib.hid hN; have HK := Lib.hid hK; clear hN hK
    go_enter Try.func13, Try.ntmps13
    go_wp2
    rw [← HK.out]
    go_loop [7] (fun v => ∃ c : Nat, v = .int .i64 (c : Int) ∧ c ≤ 8 * n ∧ 8 * n < c + 8) (fun v => 8 * n - (intOf v).toNat)
    case atStart => exact ⟨(max ((keys.length : Int) * (b : Int)) 64).toNat, by congr 1; omega, by have := HN.out; omega, by have := HN.out; omega⟩
    case round =>
      obtain ⟨c, rfl, hc1, hc2⟩ := hrel
      by_cases hcm : c % 8 = 0
      · have hcn : c = 8 * n := by omega
        have bz : ((c : Int) % 8 != 0) = false := by rw [bne_eq_false_iff_eq]; omega
        have HC := Lib.hid hcn; clear hcn hcm
        have hm1 : c ≤ maxLen := by unfold maxLen; omega
        have hm2 : 1 * c ≤ 281474976710656 := by omega
        go_wp2_with (at_make; go_must (refine wp_make elemBool rfl rfl _ _ rfl c c rfl rfl rfl rfl (Nat.le_refl c) hm1 hm2 ?_); intro w1 o1 g1 z1)
        have o2 : Owns w1 w.heap.size 4 1 (some ⟨w.heap.size, 0, none⟩) c c (rowB (onF (keys.take 0) c k) c) := by
          rw [rowB_none] at o1; exact o1
        clear o1 z1 bz
        have hk5 : k ≤ 255 := by omega
        have hc32 : c < 4294967296 := by omega
        have hc0 : 0 < c := by omega
        go_loopw [9, 10, 11] (fun i _ _ wr => ∃ t : Nat, t ≤ keys.length ∧ i = .int .i64 (t : Int) ∧ Owns wr w.heap.size 4 1 (some ⟨w.heap.size, 0, none⟩) c c (rowB (onF (keys.take t) c k) c) ∧ Gr w wr) (fun i _ _ _ => keys.length - (intOf i).toNat)
        case atStart => exact ⟨0, Nat.zero_le _, rfl, o2, g1⟩
        case round =>
          obtain ⟨t, ht, rfl, ho, hg⟩ := hrel
          by_cases hlt : t < keys.length
          · obtain ⟨bb, off, rfl, hcell⟩ := (hr.gr hg) t _ (sv_get keys t hlt)
            have HP := Lib.hid (rProbes_any keys[t] c k wr (hsh.at_ t hlt) hc0 hc32 hk5)
            have HON := Lib.hid (show onF (keys.take (t + 1)) c k = fun p => onF (keys.take t) c k p || probesF (hashF keys[t]) c k p by funext p; rw [onF_take keys t hlt])
            generalize hashF keys[t] = h at *
            generalize onF (keys.take t) c k = on at *
            have hws := hg.size
            have howlt : w.heap.size < wr.heap.size := (ho.lt _ rfl).2
            go_wp2_with (go_at_call 19; refine HP.out.mono ?_; rintro e w2 ⟨ad2, cap2, rfl, oP, g2⟩)
            obtain ⟨wo, rfl⟩ : ∃ wo : World, wo = w2 := ⟨_, rfl⟩
            have hne : ∀ a, ad2 = some a → some a.block ≠ some w.heap.size := fun a ha e => by
              have h3 := (oP.lt a ha).1
              have h4 : a.block = w.heap.size := Option.some.inj e
              omega
            have HNE := Lib.hid hne; clear hne
            go_loopw [11] (fun jj wi => ∃ u : Nat, u ≤ k ∧ jj = .int .i64 (u : Int) ∧ Owns wi w.heap.size 4 1 (some ⟨w.heap.size, 0, none⟩) c c (rowB (fun p => on p || probesF h c u p) c) ∧ Owns wi wr.heap.size 3 1 ad2 cap2 k (nv (probesL h c k)) ∧ Gr w wi) (fun jj _ => k - (intOf jj).toNat)
            case atStart => exact ⟨0, Nat.zero_le _, rfl, by simp only [probesF_zero, Bool.or_false]; exact ho.gr g2, oP, hg.trans g2⟩
            case round =>
              obtain ⟨u, hu, rfl, hoi, hPi, hgi⟩ := hrel
              by_cases hul : u < k
              · have hp : bitAt h c u < c := Nat.mod_lt _ hc0
                obtain ⟨gp, e0, _, hcp⟩ := hPi.at (nv_get (probesL h c k) u (by rw [probesL_len]; exact hul))
                subst e0
                rw [probesL_get] at hcp
                obtain ⟨_, e1, _, hcb⟩ := hoi.at (rowB_get (fun p => on p || probesF h c u p) c (bitAt h c u) hp)
                cases e1
                have hf := hoi.unfrozen (i := bitAt h c u) rfl (by omega)
                have ho3 := hoi.store rfl hp (.bool true)
                rw [rowB_set _ _ _ hp] at ho3
                have hP3 := hPi.grown (grown_set _ w.heap.size (bitAt h c u) (.bool true)) HNE.out
                have HS := Lib.hid (show (fun p => on p || probesF h c (u + 1) p) = addB (fun p => on p || probesF h c u p) (bitAt h c u) by
                  funext p
                  unfold addB
                  rw [probesF_succ, Bool.or_assoc])
                generalize bitAt h c u = p at *
                go_wp2
                go_roundw
                case rel => exact ⟨u + 1, by omega, by go_num, by rw [HS.out]; exact ho3, hP3, hgi.setCell (Nat.le_refl _) _⟩
                case measure => simp [intOf]; omega
              · obtain rfl : u = k := by omega
                go_wp2
                go_roundw
                case rel => exact ⟨t + 1, by omega, by go_num, by rw [HON.out]; exact hoi, hgi⟩
                case measure => simp [intOf]; omega
          · obtain rfl : t = keys.length := by omega
            rw [List.take_length] at ho
            have hrow := ho.row
            have HB : Calls Try.prog 20 #[.slice (some ⟨w.heap.size, 0, none⟩) c c] wr (RetB 5 wr (rowF (onF keys (8 * n) k) n)) := by
              rw [HC.out] at hrow ⊢
              exact rbytes_any _ _ n _ wr (by omega) hrow
            have HB2 := Lib.hid HB
            have hrl := rowF_len (onF keys (8 * n) k) n
            generalize rowF (onF keys (8 * n) k) n = R at *
            have HRL := Lib.hid hrl
            have hR1 : R.length + 1 ≤ maxLen := by unfold maxLen; omega
            have hR2 : (R.length + 1) * 1 ≤ 140737488355328 := by omega
            clear HB hrl hrow
            have HX2 := Lib.hid (show (k : Int) = ((UInt8.ofNat k).toNat : Int) by rw [UInt8.toNat_ofNat']; omega)
            go_wp2_with (first
              | (go_at_call 20; refine HB2.out.mono ?_; rintro e w3 ⟨ad3, cap3, rfl, o3, g3⟩)
              | (at_builtin; go_must (refine wp_append elemB rfl _ _ rfl rfl (o3.gr (Gr.alloc _ _)) rfl (Src.one _ _ (UInt8.ofNat k) HX2.out Try.underlying30) hR1 hR2 (by have := g3.size; simp; omega) ?_); intro ad4 cap4 w4 o4 k4 f4; have o5 : Owns w4 wr.heap.size 5 1 ad4 cap4 (R.length + 1) (bv (R ++ [UInt8.ofNat k])) := (by rw [bv_append]; exact o4); have hst := run_string (P := Try.prog) Try.underlying30 Try.underlying5 Try.underlying9 (cap := cap4) (len := R.length + 1) (by simp) o5.bytes))
            go_ret2
            exact ⟨by rw [HF.out]; rfl, hg.trans (g3.app o3 (Nat.le_refl _) k4)⟩
      · have bz : ((c : Int) % 8 != 0) = true := by rw [bne_iff_ne]; omega
        go_wp2
        go_round
        case rel => exact ⟨c + 1, by go_num, by omega, by omega⟩
        case measure => simp [intOf]; omega
end Go.Proofs.Ytpkbifaeofcckaa
