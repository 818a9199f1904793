/- Layer 6 (bloom): the reference's probes and questions. -/
import Derived.Test.YtpkbifaeofcckaaBloomMerge
namespace Go.Proofs.Ytpkbifaeofcckaa
set_option linter.unusedVariables false
set_option linter.unusedSimpArgs false
open Go.RowKit Bloom
set_option maxRecDepth 100000 in
set_option maxHeartbeats 1000000 in
theorem rRight_any (l : List UInt8) (w : World) (hm : l.length ≤ 9223372036854775807) :
    Calls Try.prog 23 #[.string (str l)] w fun e w' => e = .returned (.bool (rightF l)) ∧ w = w' := by
  by_cases h2 : 2 ≤ l.length
  · obtain ⟨k, hk⟩ : ∃ k, l.length = k + 1 := ⟨l.length - 1, by omega⟩
    have hkl : k < l.length := by omega
    have hd : l.getD (l.length - 1) 0 = l[k] := by
      rw [hk, List.getD_eq_getElem?_getD, Nat.add_sub_cancel, List.getElem?_eq_getElem hkl, Option.getD_some]
    have hR : rightF l = (decide (1 ≤ l[k].toNat) && decide (l[k].toNat ≤ 30)) := by
      unfold rightF
      rw [hd]; simp [h2]
    have HR := Lib.hid hR
    have hx := byte_hi l[k]
    have hks : k < (str l).size := by rw [str_size]; exact hkl
    have hi : ((l.length : Int) - 1).toNat = k := by omega
    have hi0 : 0 ≤ (l.length : Int) - 1 := by omega
    have HI := Lib.hid hi
    clear hd hR
    have h2' : (2 : Int) ≤ (l.length : Int) := by omega
    have e1 : (l.length : Int) - 1 = (k : Int) := by omega
    have E1 := Lib.hid e1
    clear e1 hk hi
    by_cases h3 : 1 ≤ l[k].toNat
    · by_cases h4 : l[k].toNat ≤ 30
      all_goals
        have h3' : (1 : Int) ≤ (l[k].toNat : Int) := by omega
        have e1 := E1.out
        go_enter Try.func23, Try.ntmps23
        go_wp2
        go_ret
        exact ⟨by rw [HR.out]; show Ending.returned (.bool _) = _; congr 2; rw [Bool.eq_iff_iff]; simp; omega, rfl⟩
    · have h3' : (l[k].toNat : Int) < 1 := by omega
      have e1 := E1.out
      go_enter Try.func23, Try.ntmps23
      go_wp2
      go_ret
      exact ⟨by rw [HR.out]; show Ending.returned (.bool _) = _; congr 2; rw [Bool.eq_iff_iff]; simp; omega, rfl⟩
  · have HR := Lib.hid (show rightF l = false by unfold rightF; simp [h2])
    go_enter Try.func23, Try.ntmps23
    go_wp2
    go_ret
    exact ⟨by rw [HR.out]; rfl, rfl⟩
theorem elemI : Elem Try.prog 44 3 (.int .i64 0) 1 8 := ⟨by kernel_rfl, by kernel_rfl, rfl, by decide⟩
/-- numbers, as Go's values -/
def nv (l : List Nat) : List Value := l.map fun (n : Nat) => Value.int .i64 (n : Int)
theorem nv_get (l : List Nat) (i : Nat) (h : i < l.length) : (nv l)[i]? = some (.int .i64 (l[i] : Int)) := by simp [nv, h]
theorem nv_append (l m : List Nat) : nv (l ++ m) = nv l ++ nv m := by simp [nv]
theorem src_cell {P : Program} {u e e' : TypeId} (w : World) (v : Value) (hv : v.oneCell' = true) (hu : P.underlying u = some (.slice e')) :
    Src P u (w.alloc (.cells #[v] e)) 1 (.slice (some ⟨w.heap.size, 0, none⟩) 1 1) 1 [v] :=
  ⟨rfl, fun x hx => by rw [List.mem_singleton.1 hx]; exact hv, .inl ⟨_, _, e', rfl, Row.alloc w _ e (0, 0) _ rfl, hu⟩⟩
def probesL (h : BitVec 32) (b k : Nat) : List Nat := (List.range k).map (bitAt h b)
theorem probesL_len (h : BitVec 32) (b k : Nat) : (probesL h b k).length = k := by simp [probesL]
theorem probesL_succ (h : BitVec 32) (b k : Nat) : probesL h b (k + 1) = probesL h b k ++ [bitAt h b k] := by simp [probesL, List.range_succ]
theorem probesL_get (h : BitVec 32) (b k i : Nat) (hi : i < (probesL h b k).length) : (probesL h b k)[i] = bitAt h b i := by simp [probesL]
theorem dF_nat (h : BitVec 32) : (dF h).toNat = h.toNat / 131072 + h.toNat % 131072 * 32768 := by
  unfold dF
  rw [BitVec.toNat_or, BitVec.toNat_shiftLeft, BitVec.toNat_ushiftRight, Nat.shiftRight_eq_div_pow, Nat.shiftLeft_eq]
  have hlt := h.isLt
  have e : h.toNat * 2 ^ 15 % 2 ^ 32 = (h.toNat % 131072) * 2 ^ 15 := by omega
  rw [e]
  have h1 : h.toNat / 2 ^ 17 < 2 ^ 15 := by omega
  rw [nat_join 15 _ _ (Nat.mul_mod_left _ _) h1]
  omega
theorem dU (h : BitVec 32) : U h / 131072 + U h % 131072 * 32768 = U (dF h) := by
  unfold U
  rw [dF_nat]
  omega
theorem atU (h : BitVec 32) (i b : Nat) (hi : i < 4294967296) : (U h + (i : Int) * U (dF h) % 4294967296) % 4294967296 % (b : Int) = (bitAt h b i : Int) := by
  rw [U_lit (m := (i : Int)) i rfl hi, U_mul, U_add, U_mod]
  rfl
set_option maxRecDepth 100000 in
set_option maxHeartbeats 1000000 in
theorem rProbes_any (key : List UInt8) (b k : Nat) (w : World) (hm : key.length ≤ 9223372036854775807) (hb0 : 0 < b) (hb : b < 4294967296) (hk : k ≤ 255) :
    Calls Try.prog 19 #[.string (str key), .int .i64 (b : Int), .int .i64 (k : Int)] w fun e w' => ∃ ad cap, e = .returned (.slice ad k cap) ∧ Owns w' w.heap.size 3 1 ad cap k (nv (probesL (hashF key) b k)) ∧ Gr w w' := by
  have HH := Lib.hid (fun w => rHash_any key w hm)
  generalize hashF key = h at *
  have hU0 := U_lo h
  have hU1 := U_hi h
  have hd := dU h
  have hd0 := U_lo (dF h)
  have hd1 := U_hi (dF h)
  go_enter Try.func19, Try.ntmps19
  go_wp2_with (go_at_call 12; refine (HH.out _).mono ?_; rintro e w1 ⟨rfl, g1⟩)
  clear hd
  go_loopw [9, 10] (fun v i wr => ∃ (j : Nat) (ad : Option Addr) (cap : Nat), j ≤ k ∧ i = .int .i64 (j : Int) ∧ v = .slice ad j cap ∧ Owns wr w.heap.size 3 1 ad cap j (nv (probesL h b j)) ∧ Gr w wr) (fun _ i _ => k - (intOf i).toNat)
  case atStart => exact ⟨0, none, 0, Nat.zero_le _, rfl, rfl, Owns.empty _ _ _ _, g1⟩
  case round =>
    obtain ⟨j, ad, cap, hj, rfl, rfl, ho, hg⟩ := hrel
    by_cases hlt : j < k
    · have HX := Lib.hid (show wrap64 ((U h + (j : Int) * U (dF h)) % 4294967296 % (b : Int)) = (bitAt h b j : Int) by
        have h1 := atU h j b (by omega)
        have h2 : (U h + (j : Int) * U (dF h) % 4294967296) % 4294967296 = (U h + (j : Int) * U (dF h)) % 4294967296 := by omega
        rw [h2] at h1
        have h3 : bitAt h b j < b := Nat.mod_lt _ hb0
        rw [h1, IntWalk.wrap64_in _ ⟨by omega, by omega⟩])
      have hm1 : j + 1 ≤ maxLen := by unfold maxLen; omega
      have hm2 : (j + 1) * 8 ≤ 140737488355328 := by omega
      have hbs := hg.size
      have hjb : (j : Int) < 4294967296 := by omega
      have hbt : ((bitAt h b j : Nat) : Int) < 4294967296 := by have := Nat.mod_lt (atF h j).toNat hb0; unfold bitAt; omega
      have hb1 : (b : Int) < 4294967296 := by omega
      have hb2 : 0 < (b : Int) := by omega
      go_wp2_with (at_builtin; go_must (refine wp_append elemI rfl _ _ rfl rfl (ho.gr (Gr.alloc _ _)) rfl (src_cell _ _ rfl Try.underlying44) hm1 hm2 (by simp; omega) ?_); intro ad2 cap2 w4 o4 k4 f4)
      rw [HX.out] at o4
      go_roundw
      case rel => exact ⟨j + 1, ad2, cap2, by omega, by go_num, rfl, by rw [probesL_succ, nv_append]; exact o4, hg.app ho (Nat.le_refl _) k4⟩
      case measure => simp [intOf]; omega
    · obtain rfl : j = k := by omega
      go_wp2
      go_ret
      exact ⟨ad, cap, rfl, ho, hg⟩
theorem Owns.get {w : World} {base : Nat} {e : TypeId} {ad : Option Addr} {cap n : Nat} {xs : List Value} (h : Owns w base e 1 ad cap n xs) : xs.length = n := by
  have := h.1; omega
set_option maxRecDepth 100000 in
set_option maxHeartbeats 1000000 in
theorem rDocMay_any (l key : List UInt8) (w : World) (hl : l.length ≤ 500000000) (hk : key.length ≤ 9223372036854775807) :
    Calls Try.prog 18 #[.string (str l), .string (str key)] w fun e w' => e = .returned (.bool (mayF l (hashF key))) ∧ Gr w w' := by
  have HR := Lib.hid (fun w => rRight_any l w (by omega))
  cases hr : rightF l with
  | false =>
    rw [may_no _ hr]
    rw [hr] at HR
    go_enter Try.func18, Try.ntmps18
    go_wp2_with (go_at_call 23; refine (HR.out _).mono ?_; rintro e w1 ⟨rfl, rfl⟩)
    go_ret
    exact ⟨rfl, Gr.refl _⟩
  | true =>
    obtain ⟨m, x, rfl, h1, h2, h3⟩ := right_of hr
    rw [may_yes m x _ h1 h2 h3]
    rw [hr] at HR
    have HPr := Lib.hid (fun w => rProbes_any key (8 * m.length) x.toNat w hk (by omega) (by simp at hl; omega) (by omega))
    generalize hashF key = h at *
    have hlen : (m ++ [x]).length = m.length + 1 := by simp
    have hlast : ∀ (h2 : m.length < (m ++ [x]).length), (m ++ [x])[m.length]'h2 = x := fun h2 => by simp
    have hin : ∀ i (h : i < m.length) (h2 : i < (m ++ [x]).length), (m ++ [x])[i]'h2 = m[i] := fun i h h2 => List.getElem_append_left h
    have hml : m.length ≤ 500000000 := by omega
    clear hr
    generalize m ++ [x] = l at *
    have HIN := Lib.hid hin; clear hin
    have hlt : m.length < l.length := by omega
    have hlast := hlast hlt
    have hx := byte_hi x
    have E8 := Lib.hid (show 8 * (m.length : Int) = ((8 * m.length : Nat) : Int) by omega)
    have HLEN := Lib.hid hlen
    have hlenI : (l.length : Int) - 1 = (m.length : Int) := by omega
    rw [show (m.length : Nat) + 1 = m.length + 1 from rfl] at hlen
    go_enter Try.func18, Try.ntmps18
    go_wp2_with (first
      | (go_at_call 23; refine (HR.out _).mono ?_; rintro e w1 ⟨rfl, rfl⟩)
      | (go_at_call 19; go_must (rw [E8.out]; refine (HPr.out _).mono ?_); rintro e w2 ⟨ad, cap, rfl, o2, g2⟩))
    have hx5 : x.toNat ≤ 255 := by omega
    clear hlen hlast hlenI
    go_loopw [6] (fun i wr => ∃ j : Nat, j ≤ x.toNat ∧ i = .int .i64 (j : Int) ∧ Gr w2 wr ∧ ∀ j', j' < j → bitOf m (bitAt h (8 * m.length) j') = true) (fun i _ => x.toNat - (intOf i).toNat)
    case atStart => exact ⟨0, Nat.zero_le _, rfl, Gr.refl _, fun j' h => by omega⟩
    case round =>
      obtain ⟨j, hj, rfl, hgw, hall⟩ := hrel
      have HALL := Lib.hid hall; clear hall
      by_cases hlj : j < x.toNat
      · have hp : bitAt h (8 * m.length) j < 8 * m.length := Nat.mod_lt _ (by omega)
        obtain ⟨g, rfl, _, hc⟩ := (o2.gr hgw).at (nv_get (probesL h (8 * m.length) x.toNat) j (by rw [probesL_len]; exact hlj))
        rw [probesL_get] at hc
        have HNO := Lib.hid (fun hb => allF_no (l := m) (h := h) (b := 8 * m.length) hlj hb)
        have HBit := HALL
        have hbt : ∀ (hq : bitAt h (8 * m.length) j / 8 < m.length), bitOf m (bitAt h (8 * m.length) j) = decide ((m[bitAt h (8 * m.length) j / 8]'hq).toNat / 2 ^ (bitAt h (8 * m.length) j % 8) % 2 = 1) := fun hq => bit_at hq
        have HSTEP := Lib.hid (show bitOf m (bitAt h (8 * m.length) j) = true → ∀ j', j' < j + 1 → bitOf m (bitAt h (8 * m.length) j') = true from fun hb j' h' => by
          by_cases e : j' = j
          · rw [e]; exact hb
          · exact HALL.out j' (by omega))
        generalize bitAt h (8 * m.length) j = p at *
        have hq : p / 8 < m.length := by omega
        have hbt := hbt hq
        have hq2 : p / 8 < l.length := by omega
        have hxy := HIN.out (p / 8) hq hq2
        have hby := byte_hi (l[p / 8])
        rw [← hxy] at hbt
        generalize hy : l[p / 8] = y at *
        have e1 : (p : Int).tdiv 8 = (p : Int) / 8 := Int.tdiv_eq_ediv_of_nonneg (by omega)
        have e2 : IntKind.i64.wrap ((p : Int) / 8) = (p : Int) / 8 := IntWalk.i64_in _ ⟨by omega, by omega⟩
        have e3 : ((p : Int) / 8).toNat = p / 8 := by omega
        have e4 : (p : Int).tmod 8 = (p : Int) % 8 := Int.tmod_eq_emod_of_nonneg (by omega)
        have e5 : IntKind.i64.wrap ((p : Int) % 8) = (p : Int) % 8 := IntWalk.i64_in _ ⟨by omega, by omega⟩
        have e6 : ((p : Int) % 8).toNat = p % 8 := by omega
        have b1 : 0 ≤ (p : Int) / 8 := by omega
        have b2 : (p : Int) / 8 < (l.length : Int) := by omega
        have b3 : 0 ≤ (p : Int) % 8 := by omega
        have HE := Lib.hid e1; have E2 := Lib.hid e2; have E3 := Lib.hid e3; have E4 := Lib.hid e4; have E5 := Lib.hid e5; have E6 := Lib.hid e6
        have HY := Lib.hid hy
        clear e1 e2 e3 e4 e5 e6 hxy hy
        have HBT := Lib.hid hbt; clear hbt
        have htm : ((y.toNat : Int) / 2 ^ (p % 8)).tmod 2 = ((y.toNat / 2 ^ (p % 8) % 2 : Nat) : Int) := by
          have e : (y.toNat : Int) / 2 ^ (p % 8) = ((y.toNat / 2 ^ (p % 8) : Nat) : Int) := by simp
          rw [e, Int.tmod_eq_emod_of_nonneg (Int.natCast_nonneg _)]
          generalize y.toNat / 2 ^ (p % 8) = q
          omega
        by_cases hbit : y.toNat / 2 ^ (p % 8) % 2 = 1
        · have bq : (((y.toNat : Int) / 2 ^ (p % 8)).tmod 2 == 0) = false := by rw [htm, hbit]; rfl
          have HB2 := Lib.hid (show bitOf m p = true by rw [HBT.out]; simpa using hbit)
          clear htm hbit
          go_wp2
          have e1 := HE.out; have e2 := E2.out; have e3 := E3.out; have e4 := E4.out; have e5 := E5.out; have e6 := E6.out; have hy := HY.out
          go_quiet (fail)
          clear e1 e2 e3 e4 e5 e6 hy
          go_wp2
          go_roundw
          case rel => exact ⟨j + 1, by omega, by go_num, hgw.trans (Gr.drewN _ _), HSTEP.out HB2.out⟩
          case measure => simp [intOf]; omega
        · have bq : (((y.toNat : Int) / 2 ^ (p % 8)).tmod 2 == 0) = true := by rw [htm, show y.toNat / 2 ^ (p % 8) % 2 = 0 by omega]; rfl
          have HB2 := Lib.hid (HNO.out (show bitOf m p = false by rw [HBT.out]; simpa using hbit))
          clear htm hbit
          go_wp2
          have e1 := HE.out; have e2 := E2.out; have e3 := E3.out; have e4 := E4.out; have e5 := E5.out; have e6 := E6.out; have hy := HY.out
          go_quiet (fail)
          clear e1 e2 e3 e4 e5 e6 hy
          go_wp2
          go_ret
          exact ⟨by rw [HB2.out]; rfl, (g2.trans hgw).trans (Gr.drewN _ _)⟩
      · obtain rfl : j = x.toNat := by omega
        have HYES := Lib.hid (allF_yes HALL.out)
        go_wp2
        go_ret
        exact ⟨by rw [HYES.out]; rfl, g2.trans hgw⟩
end Go.Proofs.Ytpkbifaeofcckaa
