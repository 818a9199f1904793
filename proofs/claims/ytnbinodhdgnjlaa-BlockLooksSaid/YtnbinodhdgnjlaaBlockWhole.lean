/- Layer 13 (block): BlockWhole answers true. -/
import Derived.Test.YtnbinodhdgnjlaaBlockRise
namespace Go.Proofs.Ytnbinodhdgnjlaa.Bk
set_option linter.unusedVariables false
set_option linter.unusedSimpArgs false
open Varint
/-- what the statement counts -/
def szN (itv : Nat) (l : List Pr) : Nat → Nat
  | 0 => 6
  | i + 1 => szN itv l i + (l.getD i noPr).1.length + (l.getD i noPr).2.length + 7 + (if i % itv = 0 then 4 else 0)
theorem data_sz {itv : Nat} {l : List Pr} (h : okLens l) (i : Nat) : (dataN itv l i).length + (placeN itv l i).length + 6 ≤ szN itv l i := by
  induction i with
  | zero => simp [dataN, placeN, szN]
  | succ i ih =>
    have a := h i
    have b := entF_len (nAt itv l i) _ a.1 a.2 (nAt_le itv l i)
    rw [dataN, placeN, szN, List.length_append, List.length_append]
    split
    · rw [bytesN_len]; omega
    · simp only [List.length_nil]; omega
theorem data_one {itv : Nat} {l : List Pr} (h : okLens l) (i : Nat) : (dataN itv l i).length ≤ (dataN 1 l i).length ∧ (placeN itv l i).length ≤ (placeN 1 l i).length := by
  induction i with
  | zero => simp [dataN, placeN]
  | succ i ih =>
    have a := h i
    have b := entF_len (nAt itv l i) _ a.1 a.2 (nAt_le itv l i)
    have hn : nAt 1 l i = 0 := by unfold nAt; rw [if_pos (Nat.mod_one i)]
    simp only [dataN, placeN, List.length_append, hn, Nat.mod_one, if_true, bytesN_len]
    split
    · rw [bytesN_len]; omega
    · simp only [List.length_nil]; omega
theorem szN_le {itv : Nat} {l : List Pr} (h : okLens l) (i : Nat) : szN itv l i ≤ 6 + 2211 * i := by
  induction i with
  | zero => simp [szN]
  | succ i ih =>
    have a := h i
    rw [szN]
    split <;> omega
theorem build_sz {itv : Nat} {l : List Pr} (h : okLens l) : (buildF itv l).length ≤ szN itv l l.length ∧ (buildF itv l).length ≤ (buildF 1 l).length + l.length := by
  have a := data_sz (itv := itv) h l.length
  have b := data_one (itv := itv) h l.length
  simp only [buildF, List.length_append, bytesN_len]
  omega
theorem chkF_same (l : List Pr) (a b : Int) (h1 : 1 ≤ a) (h2 : a ≤ 64) (h3 : 1 ≤ b) (h4 : b ≤ 64) : chkF l a = chkF l b := by
  unfold chkF; rw [if_neg (show ¬ (a < 1 ∨ 64 < a) by omega), if_neg (show ¬ (b < 1 ∨ 64 < b) by omega)]
theorem chkF_ok {l : List Pr} {a : Int} (h : chkF l a = 0) : okLens l ∧ l.length ≤ 10000 ∧ riseB l = true := by
  unfold chkF at h
  split at h
  · cases h
  · split at h
    · cases h
    · rename_i h2
      have h3 : ¬ 10000 < l.length ∧ ¬ l.any longB = true := not_or.1 h2
      split at h
      · rename_i h5; exact ⟨okLens_of (by simpa using h3.2), by omega, h5⟩
      · cases h
end Go.Proofs.Ytnbinodhdgnjlaa.Bk
namespace Go.Proofs.Ytnbinodhdgnjlaa
set_option linter.unusedVariables false
set_option linter.unusedSimpArgs false
open Go.RowKit Bk
theorem u64_mod (x : Int) (m : Nat) (hm : 0 < m) (h : m ≤ 4611686018427387904) : ∃ a : Nat, IntKind.i64.wrap ((IntKind.u64.wrap x).tmod (m : Int)) = (a : Int) ∧ a < m := by
  have h0 : 0 ≤ IntKind.u64.wrap x := by rw [IntKind.wrap_u64]; omega
  have h1 : (IntKind.u64.wrap x).tmod (m : Int) = IntKind.u64.wrap x % (m : Int) := Int.tmod_eq_emod_of_nonneg h0
  have h2 := Int.emod_nonneg (IntKind.u64.wrap x) (show (m : Int) ≠ 0 by omega)
  have h3 := Int.emod_lt_of_pos (IntKind.u64.wrap x) (show (0 : Int) < m by omega)
  obtain ⟨a, ha⟩ := Int.eq_ofNat_of_zero_le h2
  refine ⟨a, ?_, by omega⟩
  rw [h1, ha, IntKind.wrap_i64]
  omega
theorem Build_at (ad : Option Addr) (n cap : Nat) (l : List Pr) (itv : Int) (w : World) (c : Nat) (out : List UInt8) (hn : n = l.length) (hr : Row w ad (pv l)) (hl : l.length ≤ 9223372036854775807) (hc : chkF l itv = c) (ho : (if c = 0 then buildF itv.toNat l else []) = out) :
    Calls Try.prog 11 #[.slice ad n cap, .int .i64 itv] w (RetBE 5 w out c) := by
  subst hn hc ho; exact Build_any ad cap l itv w hr hl
set_option maxRecDepth 100000 in
theorem blocked_any (w : World) : Calls Try.prog 9 #[] w fun e w' => e = .returned (.bool true) ∧ Gr w w' := by
  have hc : chkF [([97, 98], [49]), ([97, 98, 99], [50])] 2 = 0 := by decide
  have hb : (if (0 : Nat) = 0 then buildF (2 : Int).toNat [([97, 98], [49]), ([97, 98, 99], [50])] else []) = [0, 2, 1, 97, 98, 49, 2, 1, 1, 99, 50, 0, 0, 0, 0, 2, 0, 2, 0, 0, 0] := by decide
  have HB := Lib.hid (fun w' ad cap hr => Build_at ad 2 cap [([97, 98], [49]), ([97, 98, 99], [50])] 2 w' 0 _ rfl hr (by decide) hc hb)
  clear hc hb
  go_enter Try.func9, Try.ntmps9
  go_wp2_with (first
    | (go_at_call 11; refine (HB.out _ _ _ (Row.alloc _ _ _ (0, 0) _ rfl)).mono ?_; rintro e w1 ⟨ad1, c1, rfl, o1, g1⟩; have hs := run_string (P := Try.prog) Try.underlying26 Try.underlying5 Try.underlying9 (cap := c1) (len := 21) rfl o1.bytes))
  go_ret
  exact ⟨rfl, (Gr.alloc _ _).trans g1⟩
set_option maxRecDepth 100000 in
set_option maxHeartbeats 4000000 in
theorem BlockWhole_any (ad : Option Addr) (cap : Nat) (l : List Pr) (x : Int) (w : World) (hr : Row w ad (pv l)) (hl : l.length ≤ 9223372036854775807) :
    Calls Try.prog 3 #[.slice ad l.length cap, .int .i64 x] w fun e w' => e = .returned (.bool true) ∧ Gr w w' := by
  have HRI := Lib.hid (fun w hr => rising_any ad cap l w hr hl)
  have HRW := Lib.hid hr
  clear hr
  have hLl := riseF_len l
  generalize riseF l = L at *
  obtain ⟨j0, e1, hj⟩ := u64_mod x 64 (by decide) (by decide)
  have e1 : IntKind.i64.wrap ((IntKind.u64.wrap x).tmod 64) = (j0 : Int) := e1
  obtain ⟨itv, hitv⟩ : ∃ itv, itv = j0 + 1 := ⟨_, rfl⟩
  have hsame := chkF_same L 1 (itv : Int) (by omega) (by omega) (by omega) (by omega)
  obtain ⟨c, hc⟩ : ∃ c, chkF L (itv : Int) = c := ⟨_, rfl⟩
  have e2 : (1 : Int) + (j0 : Int) = (itv : Int) := by omega
  have hI1 : 1 ≤ itv := by omega
  have hI2 : itv ≤ 64 := by omega
  clear hitv hj
  have HB1 := Lib.hid (fun w ad cap out hr ho => Build_at ad L.length cap L 1 w c out rfl hr (by omega) (hsame.trans hc) ho)
  have HB2 := Lib.hid (fun w ad cap out hr ho => Build_at ad L.length cap L (itv : Int) w c out rfl hr (by omega) hc ho)
  by_cases h0 : c = 0
  · subst h0
    have hok := chkF_ok hc
    have hsz := build_sz (itv := itv) hok.1
    have hsl := szN_le (itv := itv) hok.1
    have hb1 : (buildF 1 L).length ≤ 6 + 2211 * L.length := Nat.le_trans (build_sz (itv := 1) hok.1).1 (szN_le hok.1 _)
    have HOK := Lib.hid hok.1
    have HSL := Lib.hid hsl
    have HO1 := Lib.hid (show (if (0 : Nat) = 0 then buildF (1 : Int).toNat L else []) = buildF 1 L from rfl)
    have HO2 := Lib.hid (show (if (0 : Nat) = 0 then buildF (itv : Int).toNat L else []) = buildF itv L from rfl)
    generalize buildF 1 L = b1 at *
    generalize buildF itv L = b2 at *
    have HSZ := Lib.hid hsz
    clear hok hsz hsl
    go_enter Try.func3, Try.ntmps3
    go_wp2_with (first
      | (go_at_call 9; refine (blocked_any _).mono ?_; rintro e w1 ⟨rfl, g1⟩)
      | (go_at_call 10; refine (HRI.out _ (HRW.out.gr g1)).mono ?_; rintro e w2 ⟨adl, cpl, rfl, ol, g2⟩)
      | (go_at_call 11; (with_reducible refine (HB1.out _ _ _ _ ol.row HO1.out).mono ?_); rintro e w3 ⟨ad3, cp3, rfl, o3, g3⟩; have ol3 := ol.gr g3)
      | (go_at_call 11; (with_reducible refine (HB2.out _ _ _ _ ol3.row HO2.out).mono ?_); rintro e w4 ⟨ad4, cp4, rfl, o4, g4⟩; have ol4 := ol3.gr g4))
    go_loopw [9, 10] (fun vn vi wr => ∃ i : Nat, i ≤ L.length ∧ vn = .int .i64 (szN itv L i : Nat) ∧ vi = .int .i64 (i : Int) ∧ Gr w4 wr) (fun _ vi _ => L.length - (intOf vi).toNat)
    case atStart => exact ⟨0, Nat.zero_le _, rfl, rfl, Gr.refl _⟩
    case round =>
      obtain ⟨i, hi, rfl, rfl, hg⟩ := hrel
      by_cases hlt : i < L.length
      · obtain ⟨b, off, rfl, hc1, hc2⟩ := ol4.pair i hlt
        have q1 := hg.cell hc1
        have q2 := hg.cell hc2
        have hs := HSL.out i
        have hokl := HOK.out i
        have HG := Lib.hid (show L.getD i noPr = L[i] by rw [List.getD_eq_getElem?_getD, List.getElem?_eq_getElem hlt, Option.getD_some])
        rw [HG.out] at hokl
        have HS := Lib.hid (show szN itv L (i + 1) = szN itv L i + L[i].1.length + L[i].2.length + 7 + (if i % itv = 0 then 4 else 0) by rw [szN, HG.out])
        generalize L[i] = p at *
        generalize hsz : szN itv L i = sz at *
        have HSZ2 := Lib.hid hsz; clear hsz
        by_cases hm : i % itv = 0
        · have hz : (i : Int) % (itv : Int) = 0 := by omega
          rw [if_pos hm] at HS
          clear hm
          go_wp2
          go_quiet (fail)
          go_wp2
          go_roundw
          case rel => exact ⟨i + 1, hlt, by rw [HS.out]; go_num, by go_num, hg.trans (Gr.drewN _ _)⟩
          case measure => simp [intOf]; omega
        · have hz : ¬ (i : Int) % (itv : Int) = 0 := by omega
          rw [if_neg hm] at HS
          clear hm
          go_wp2
          go_quiet (fail)
          go_wp2
          go_roundw
          case rel => exact ⟨i + 1, hlt, by rw [HS.out]; go_num, by go_num, hg.trans (Gr.drewN _ _)⟩
          case measure => simp [intOf]; omega
      · obtain rfl : i = L.length := by omega
        have hs := HSL.out L.length
        obtain ⟨z1, z2⟩ := HSZ.out
        generalize szN itv L L.length = sz at *
        go_wp2
        go_ret
        exact ⟨by show Ending.returned (.bool (decide ((b2.length : Int) ≤ (b1.length : Int) + (L.length : Int)))) = _; rw [decide_eq_true (by omega)], (((g1.trans g2).trans g3).trans g4).trans hg⟩
  · have hne : ((c : Int) != 0) = true := by rw [bne_iff_ne]; omega
    have HO1 := Lib.hid (show (if c = 0 then buildF (1 : Int).toNat L else []) = [] from if_neg h0)
    have HO2 := Lib.hid (show (if c = 0 then buildF (itv : Int).toNat L else []) = [] from if_neg h0)
    go_enter Try.func3, Try.ntmps3
    go_wp2_with (first
      | (go_at_call 9; refine (blocked_any _).mono ?_; rintro e w1 ⟨rfl, g1⟩)
      | (go_at_call 10; refine (HRI.out _ (HRW.out.gr g1)).mono ?_; rintro e w2 ⟨adl, cpl, rfl, ol, g2⟩)
      | (go_at_call 11; (with_reducible refine (HB1.out _ _ _ _ ol.row HO1.out).mono ?_); rintro e w3 ⟨ad3, cp3, rfl, o3, g3⟩; have ol3 := ol.gr g3)
      | (go_at_call 11; (with_reducible refine (HB2.out _ _ _ _ ol3.row HO2.out).mono ?_); rintro e w4 ⟨ad4, cp4, rfl, o4, g4⟩; have ol4 := ol3.gr g4))
    go_ret
    exact ⟨rfl, ((g1.trans g2).trans g3).trans g4⟩
end Go.Proofs.Ytnbinodhdgnjlaa
