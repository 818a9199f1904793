/- Layer 6 (bloom): the reference's merging; BloomAsks answers true. -/
import Derived.Test.YtpkbifaeofcckaaBloomLaw2
import Derived.Outline
namespace Go.Proofs.Ytpkbifaeofcckaa
set_option linter.unusedVariables false
set_option linter.unusedSimpArgs false
open Go.RowKit Bloom
/-- a byte to which so many bits of another are joined, one by one -/
def orK (x y : Nat) : Nat → Nat
  | 0 => x
  | k + 1 => if y.testBit k = true ∧ (orK x y k).testBit k = false then orK x y k + 2 ^ k else orK x y k
theorem add_bit : ∀ (z : Fin 256) (k : Fin 8), z.val.testBit k.val = false → z.val + 2 ^ k.val = z.val ||| 2 ^ k.val ∧ z.val + 2 ^ k.val < 256 := by decide +kernel
theorem orK_spec (x y : Nat) (hx : x < 256) : ∀ k, k ≤ 8 → orK x y k < 256 ∧ ∀ r, (orK x y k).testBit r = (x.testBit r || (decide (r < k) && y.testBit r))
  | 0, _ => ⟨hx, fun r => by simp [orK]⟩
  | k + 1, h => by
    obtain ⟨h1, h2⟩ := orK_spec x y hx k (by omega)
    rw [orK]
    by_cases hc : y.testBit k = true ∧ (orK x y k).testBit k = false
    · rw [if_pos hc]
      obtain ⟨e1, e2⟩ := add_bit ⟨orK x y k, h1⟩ ⟨k, by omega⟩ hc.2
      simp only at e1 e2
      refine ⟨e2, fun r => ?_⟩
      rw [e1, Nat.testBit_or, h2, Nat.testBit_two_pow]
      by_cases e : k = r
      · subst e; simp [hc.1]
      · have : (r < k + 1) ↔ r < k := by omega
        simp [e, this]
    · rw [if_neg hc]
      refine ⟨h1, fun r => ?_⟩
      rw [h2]
      by_cases e : r = k
      · subst e
        have h3 := h2 r
        simp at h3
        cases hy : y.testBit r with
        | false => simp
        | true =>
          have : (orK x y r).testBit r ≠ false := fun h4 => hc ⟨hy, h4⟩
          rw [h3] at this
          cases hx2 : x.testBit r with
          | true => simp
          | false => exact absurd hx2 this
      · have : (r < k + 1) ↔ r < k := by omega
        simp [this]
theorem orK_eight (x y : Nat) (hx : x < 256) (hy : y < 256) : orK x y 8 = x ||| y := by
  apply Nat.eq_of_testBit_eq
  intro r
  rw [(orK_spec x y hx 8 (Nat.le_refl _)).2, Nat.testBit_or]
  by_cases h : r < 8
  · simp [h]
  · have : y.testBit r = false := Nat.testBit_lt_two_pow (Nat.lt_of_lt_of_le hy (by
      have := Nat.pow_le_pow_right (show 0 < 2 by decide) (show 8 ≤ r by omega)
      omega))
    simp [h, this]
/-- the row, i bytes of which are joined -/
def joinI (a b : List UInt8) (i : Nat) : List UInt8 := orF (a.take i) (b.take i) ++ a.drop i
theorem joinI_len (a b : List UInt8) (i : Nat) (h : i ≤ a.length) (hb : a.length = b.length) : (joinI a b i).length = a.length := by
  unfold joinI
  rw [List.length_append, orF_len _ _ (by simp [hb]), List.length_take, List.length_drop]; omega
theorem joinI_at (a b : List UInt8) (i : Nat) (h : i < a.length) (hb : a.length = b.length) : ∀ h2 : i < (joinI a b i).length, (joinI a b i)[i]'h2 = a[i] := by
  intro h2
  have hl : (orF (a.take i) (b.take i)).length = i := by rw [orF_len _ _ (by simp [hb]), List.length_take]; omega
  have : (joinI a b i)[i]? = some a[i] := by
    unfold joinI
    rw [List.getElem?_append_right (by omega), hl, Nat.sub_self, List.getElem?_drop]
    simp [h]
  rw [List.getElem?_eq_getElem h2] at this
  exact Option.some.inj this
theorem joinI_step (a b : List UInt8) (i : Nat) (h : i < a.length) (hb : a.length = b.length) (y : UInt8) (hy : y = a[i] ||| b[i]'(by omega)) : (joinI a b i).set i y = joinI a b (i + 1) := by
  have hl : (orF (a.take i) (b.take i)).length = i := by rw [orF_len _ _ (by simp [hb]), List.length_take]; omega
  unfold joinI
  rw [List.set_append_right _ _ (by omega), hl, Nat.sub_self, List.drop_eq_getElem_cons h, List.set_cons_zero, orF_take a b i h (by omega), hy]
  simp
theorem joinI_end (m m' : List UInt8) (x : UInt8) (h : m'.length = m.length) : joinI (m ++ [x]) (m' ++ [x]) m.length = orF m m' ++ [x] := by
  unfold joinI
  rw [List.take_left' rfl, List.take_left' h, List.drop_left' rfl]
theorem tmod_bit (y u : Nat) : ((y : Int) / 2 ^ u).tmod 2 = ((y / 2 ^ u % 2 : Nat) : Int) := by
  have : (y : Int) / 2 ^ u = ((y / 2 ^ u : Nat) : Int) := by simp
  rw [this, Int.tmod_eq_emod_of_nonneg (Int.natCast_nonneg _)]
  generalize y / 2 ^ u = k
  omega
theorem ho_set {w : World} {base g cap n j : Nat} {L : List UInt8} {z : UInt8} (h : Owns w base 5 1 (some ⟨g, 0, none⟩) cap n (bv (L.set j z))) (hj : j < n) (v : UInt8) : Owns (w.setCell ⟨g, j, none⟩ (.int .u8 (v.toNat : Int))) base 5 1 (some ⟨g, 0, none⟩) cap n (bv (L.set j v)) := by
  have := h.store rfl hj (.int .u8 (v.toNat : Int))
  rw [bv_set, List.set_set] at this
  exact this
set_option maxRecDepth 100000 in
set_option maxHeartbeats 2000000 in
theorem rMerge_good (m m' : List UInt8) (x : UInt8) (w : World) (hlen : m'.length = m.length) (hl : m.length ≤ 100000000) (h1 : 1 ≤ m.length) (h2 : 1 ≤ x.toNat) (h3 : x.toNat ≤ 30) :
    Calls Try.prog 15 #[.string (str (m ++ [x])), .string (str (m' ++ [x]))] w fun e w' => e = .returned (.tuple #[.string (str (orF m m' ++ [x])), .int .i64 0]) ∧ Gr w w' := by
  have R1 := Lib.hid (fun w => rRight_any (m ++ [x]) w (by simp; omega))
  have R2 := Lib.hid (fun w => rRight_any (m' ++ [x]) w (by simp; omega))
  rw [right_mk h1 h2 h3] at R1
  rw [right_mk (by omega) h2 h3] at R2
  have HE := Lib.hid (joinI_end m m' x hlen)
  have ha : (m ++ [x]).length = m.length + 1 := by simp
  have hb : (m' ++ [x]).length = m.length + 1 := by simp [hlen]
  have hla : ∀ h : m.length < (m ++ [x]).length, (m ++ [x])[m.length]'h = x := fun h => by simp
  have hlb : ∀ h : m.length < (m' ++ [x]).length, (m' ++ [x])[m.length]'h = x := fun h => by simp [← hlen]
  generalize orF m m' ++ [x] = OUT at *
  generalize m ++ [x] = a at *
  generalize m' ++ [x] = b at *
  generalize m.length = n at *
  have hna : n < a.length := by omega
  have hnb : n < b.length := by omega
  have xa := hla hna
  have xb := hlb hnb
  have HAL := Lib.hid ha; have HBL := Lib.hid hb
  have hsame : ((a.length : Int) != (b.length : Int)) = false := by rw [bne_eq_false_iff_eq]; omega
  have e1 : (a.length : Int) - 1 = (n : Int) := by omega
  have e2 : (b.length : Int) - 1 = (n : Int) := by omega
  have hx := byte_hi x
  have E1 := Lib.hid (show IntKind.i64.wrap ((a.length : Int) - 1) = (n : Int) by rw [IntWalk.i64_in _ ⟨by omega, by omega⟩]; exact e1)
  have E2 := Lib.hid (show IntKind.i64.wrap ((b.length : Int) - 1) = (n : Int) by rw [IntWalk.i64_in _ ⟨by omega, by omega⟩]; exact e2)
  have HX1 := Lib.hid e1
  have XA := Lib.hid xa; have XB := Lib.hid xb
  clear hla hlb ha hb hlen e1 e2 xa xb
  go_enter Try.func15, Try.ntmps15
  go_wp2_with (go_at_call 23; first | ((with_reducible refine (R1.out _).mono ?_); rintro e w2 ⟨rfl, rfl⟩) | ((with_reducible refine (R2.out _).mono ?_); rintro e w2 ⟨rfl, rfl⟩))
  have e1 := E1.out; have e2 := E2.out; have xa := XA.out; have xb := XB.out
  go_quiet (fail)
  clear e1 e2 xa xb
  obtain ⟨cap, w1, hrun, ho1, hg1, hsz1⟩ := bytes_str Try.underlying9 Try.underlying30 Try.underlying5 (w.drewN nq) a (by have := HAL.out; unfold maxLen; omega)
  have HZ := Lib.hid hsz1; clear hsz1
  go_wp2
  clear hrun
  have G1 : Gr w w1 := (Gr.drewN w nq).trans hg1
  have o0 : Owns w1 w.heap.size 5 1 (some ⟨w.heap.size, 0, none⟩) cap a.length (bv (joinI a b 0)) := by
    have : joinI a b 0 = a := by simp [joinI, orF]
    rw [this]; exact ho1
  clear ho1 hg1
  have hab : a.length = b.length := by rw [HAL.out, HBL.out]
  have HAB := Lib.hid hab; clear hab
  have e1 := HX1.out
  go_loopw [7, 8] (fun i _ wr => ∃ j : Nat, j ≤ n ∧ i = .int .i64 (j : Int) ∧ Owns wr w.heap.size 5 1 (some ⟨w.heap.size, 0, none⟩) cap a.length (bv (joinI a b j)) ∧ Gr w wr) (fun i _ _ => n - (intOf i).toNat)
  case atStart => exact ⟨0, Nat.zero_le _, rfl, o0, G1⟩
  case round =>
    obtain ⟨j, hj, rfl, ho, hg⟩ := hrel
    by_cases hlt : j < n
    · have hja : j < a.length := by omega
      have hjb : j < b.length := by omega
      have hjl : (joinI a b j).length = a.length := joinI_len a b j (by omega) HAB.out
      have hjat := joinI_at a b j hja HAB.out (by omega)
      have HSTEP := Lib.hid (joinI_step a b j hja HAB.out)
      have hset : (joinI a b j).set j a[j] = joinI a b j := by rw [← hjat]; exact List.set_getElem_self _
      have hspec := orK_spec a[j].toNat b[j].toNat a[j].toNat_lt
      have height := orK_eight a[j].toNat b[j].toNat a[j].toNat_lt b[j].toNat_lt
      clear hjat
      generalize joinI a b j = L at *
      have hyb := byte_hi b[j]
      have HSET := Lib.hid hset; have HSPEC := Lib.hid hspec; have HEIGHT := Lib.hid height; have HJL := Lib.hid hjl
      clear hset hspec height hjl
      go_wp2
      go_loopw [8] (fun kk wi => ∃ u : Nat, u ≤ 8 ∧ kk = .int .i64 (u : Int) ∧ Owns wi w.heap.size 5 1 (some ⟨w.heap.size, 0, none⟩) cap a.length (bv (L.set j (UInt8.ofNat (orK a[j].toNat b[j].toNat u)))) ∧ Gr w wi) (fun kk _ => 8 - (intOf kk).toNat)
      case atStart => exact ⟨0, by omega, rfl, by
        have : UInt8.ofNat (orK a[j].toNat b[j].toNat 0) = a[j] := by simp [orK]
        rw [this, HSET.out]; exact ho, hg⟩
      case round =>
        obtain ⟨u, hu, rfl, hoi, hgi⟩ := hrel
        by_cases hul : u < 8
        · obtain ⟨hz1, hz2⟩ := HSPEC.out u hu
          have hls : j < (L.set j (UInt8.ofNat (orK a[j].toNat b[j].toNat u))).length := by rw [List.length_set, HJL.out]; exact hja
          obtain ⟨_, e0, _, hcz⟩ := hoi.at (bv_get _ j hls)
          cases e0
          rw [List.getElem_set_self] at hcz
          have hf := hoi.unfrozen (i := j) rfl (by omega)
          have hzn : (UInt8.ofNat (orK a[j].toNat b[j].toNat u)).toNat = orK a[j].toNat b[j].toNat u := by rw [UInt8.toNat_ofNat', Nat.mod_eq_of_lt (by omega)]
          have hsucc : orK a[j].toNat b[j].toNat (u + 1) = if b[j].toNat.testBit u = true ∧ (orK a[j].toNat b[j].toNat u).testBit u = false then orK a[j].toNat b[j].toNat u + 2 ^ u else orK a[j].toNat b[j].toNat u := rfl
          have hnext := (HSPEC.out (u + 1) (by omega)).1
          have HZ3 := Lib.hid (fun v => ho_set hoi hja v)
          rw [hzn] at hcz
          rw [Nat.testBit_eq_decide_div_mod_eq, Nat.testBit_eq_decide_div_mod_eq] at hsucc
          have HS := Lib.hid hsucc; have HNX := Lib.hid hnext
          generalize hz' : orK a[j].toNat b[j].toNat (u + 1) = z' at *
          have HZ' := Lib.hid hz'; clear hz'
          generalize orK a[j].toNat b[j].toNat u = z at *
          have hzb : (z : Int) < 256 := by omega
          clear hsucc hzn hz2 hnext
          have ey := tmod_bit b[j].toNat u
          have ez := tmod_bit z u
          have hu0 : 0 ≤ (u : Int) := by omega
          by_cases hy1 : b[j].toNat / 2 ^ u % 2 = 1
          · have by1 : (((b[j].toNat : Int) / 2 ^ u).tmod 2 == 1) = true := by rw [ey, hy1]; rfl
            by_cases hz1' : z / 2 ^ u % 2 = 0
            · have bz1 : (((z : Int) / 2 ^ u).tmod 2 == 0) = true := by rw [ez, hz1']; rfl
              have HV := Lib.hid (show z' = z + 2 ^ u by rw [HS.out, if_pos]; simp [hy1, hz1'])
              clear hy1 hz1' ey ez
              have hval : ((z : Int) + 2 ^ u) % 256 = ((UInt8.ofNat z').toNat : Int) := by
                have hn := HNX.out
                rw [HV.out] at hn
                rw [HV.out, UInt8.toNat_ofNat', Nat.mod_eq_of_lt hn, show (z : Int) + 2 ^ u = ((z + 2 ^ u : Nat) : Int) by push_cast; rfl, Int.emod_eq_of_lt (Int.natCast_nonneg _) (by exact_mod_cast hn)]
              have HVL := Lib.hid hval; clear hval
              go_wp2
              go_still_tail 10, (by kernel_rfl)
              go_wp2
              go_roundw
              case rel =>
                refine ⟨u + 1, by omega, by go_num, ?_, ?_⟩
                · rw [HZ'.out]
                  rw [HVL.out]
                  exact (HZ3.out (UInt8.ofNat z')).gr (Gr.drew _)
                · exact (hgi.setCell (Nat.le_refl _) _).trans (Gr.drew _)
              case measure => simp [intOf]; omega
            · have bz1 : (((z : Int) / 2 ^ u).tmod 2 == 0) = false := by rw [ez, beq_eq_false_iff_ne]; omega
              have HV := Lib.hid (show z' = z by rw [HS.out, if_neg]; simp [hz1'])
              clear hy1 hz1' ey ez
              go_wp2
              go_roundw
              case rel => exact ⟨u + 1, by omega, by go_num, by rw [HZ'.out, HV.out]; exact hoi, hgi⟩
              case measure => simp [intOf]; omega
          · have by1 : (((b[j].toNat : Int) / 2 ^ u).tmod 2 == 1) = false := by rw [ey, beq_eq_false_iff_ne]; omega
            have HV := Lib.hid (show z' = z by rw [HS.out, if_neg]; simp [hy1])
            clear hy1 ey ez
            go_wp2
            go_roundw
            case rel => exact ⟨u + 1, by omega, by go_num, by rw [HZ'.out, HV.out]; exact hoi, hgi⟩
            case measure => simp [intOf]; omega
        · obtain rfl : u = 8 := by omega
          rw [HEIGHT.out] at hoi
          have ho8 := hoi
          rw [HSTEP.out _ (by apply UInt8.toNat_inj.1; rw [UInt8.toNat_or, UInt8.toNat_ofNat', Nat.mod_eq_of_lt (Nat.or_lt_two_pow (n := 8) a[j].toNat_lt b[j].toNat_lt)])] at ho8
          go_wp2
          go_roundw
          case rel => exact ⟨j + 1, by omega, by go_num, ho8, hgi⟩
          case measure => simp [intOf]; omega
    · obtain rfl : j = n := by omega
      rw [HE.out] at ho
      have hol := ho.len
      have hst := run_string (P := Try.prog) Try.underlying30 Try.underlying5 Try.underlying9 (cap := cap) (len := a.length) hol ho.bytes
      have HOL := Lib.hid hol; clear hol
      go_wp2
      go_ret2
      exact ⟨rfl, hg⟩
end Go.Proofs.Ytpkbifaeofcckaa
