/- Layer 8 (frame): FrameGoes answers true. -/
import Derived.Test.YtmjhffohfppnaaaFrameCuts
namespace Go.Proofs.Ytmjhffohfppnaaa
set_option linter.unusedVariables false
set_option linter.unusedSimpArgs false
open Go.RowKit Fr
theorem whole_of (rs : List (List UInt8)) (c : Nat) : ∀ m k : Nat, m + k = rs.length → upTo rs k ≤ c → ∃ W, W ≤ rs.length ∧ upTo rs W ≤ c ∧ (W = rs.length ∨ ∃ h : W < rs.length, c < upTo rs (W + 1))
  | 0, k, h, hk => ⟨k, by omega, hk, .inl (by omega)⟩
  | m + 1, k, h, hk => by
    by_cases h1 : upTo rs (k + 1) ≤ c
    · exact whole_of rs c m (k + 1) (by omega) h1
    · exact ⟨k, by omega, hk, .inr ⟨by omega, by omega⟩⟩
theorem scan_some (rs : List (List UInt8)) (c : Nat) (hc : c ≤ (laysF 0 rs).length) : ∃ xs n, scanF ((laysF 0 rs).take c) = (xs, n) ∧ n ≤ c ∧ xs.length ≤ rs.length ∧ (laysF 0 rs).take n = laysF 0 xs ∧ n = (laysF 0 xs).length := by
  obtain ⟨W, h1, h2, h3⟩ := whole_of rs c rs.length 0 rfl (Nat.zero_le _)
  refine ⟨rs.take W, upTo rs W, scan_cut rs c W hc h1 h2 h3, h2, by simp; omega, ?_, rfl⟩
  have e : laysF 0 rs = laysF 0 (rs.take W) ++ laysF (upTo rs W) (rs.drop W) := by
    have := lays_append (rs.take W) (rs.drop W) 0
    rw [List.take_append_drop, Nat.zero_add] at this
    exact this
  rw [e]
  exact List.take_left
theorem fresh_apart {w : World} {B : Nat} {e : TypeId} {ad3 ad4 : Option Addr} {cap n N : Nat} {xs : List Value} (o : Owns w B e 1 ad3 cap n xs) (f : ∀ a, ad4 = some a → some (⟨w.heap.size, 0, none⟩ : Addr) = some a ∨ N ≤ a.block) (hN : w.heap.size ≤ N) : Apart ad3 ad4 := by
  intro a b ha hb
  have h1 := (o.lt a ha).2
  rcases f b hb with h | h
  · cases h; exact Nat.ne_of_lt h1
  · omega
theorem sv_one {l : List (List UInt8)} : ∀ v ∈ sv l, v.oneCell' = true := by
  intro v hv
  simp only [sv, List.mem_map] at hv
  obtain ⟨x, _, rfl⟩ := hv
  rfl
set_option maxRecDepth 100000 in
set_option maxHeartbeats 8000000 in
theorem FrameGoes_any (ad adm : Option Addr) (cap capm : Nat) (recs more : List (List UInt8)) (x : Int) (w : World) (hc : recs.length ≤ cap) (hm : cap ≤ maxLen) (hr : Row w ad (sv recs)) (hq : ∀ s ∈ recs, s.length ≤ 9223372036854775807)
    (hcm : more.length ≤ capm) (hmm : capm ≤ maxLen) (hrm : Row w adm (sv more)) (hqm : ∀ s ∈ more, s.length ≤ 9223372036854775807) :
    Calls Try.prog 7 #[.slice ad recs.length cap, .int .i64 x, .slice adm more.length capm] w fun e w' => e = .returned (.bool true) ∧ Gr w w' := by
  have HL := Lib.hid (lay_any ad cap recs w hc hm hr hq)
  have hmx : maxLen ≤ 9223372036854775807 := by decide
  have HR := Lib.hid hrm.at
  have HQ := Lib.hid (fun i (h : i < more.length) => hqm _ (List.getElem_mem h))
  clear hr hq hrm hqm
  have HTOK : RowKit.Hid True := trivial
  go_enter Try.func7, Try.ntmps7
  go_wp2_with (first
    | (go_at_call 18; refine HL.out.mono ?_; rintro e w1 ⟨rs, adA, adE, adH, cA, cE, cH, rfl, oA, oE, oH, g1, hn, h30, h20, _⟩; have HSS := Lib.hid (scan_some rs); generalize laysF 0 rs = A at *; have hAc : A.length ≤ cA := oA.2.1; have hAm : cA ≤ maxLen := oA.2.2.1; obtain ⟨c, e1, hcA⟩ := u64_mod_at x A.length (by omega); obtain ⟨xs, n, HSC, hnc, hxl, HTN, HNL⟩ := HSS.out c hcA; have HSC := Lib.hid HSC; have HTN := Lib.hid HTN; have HNL := Lib.hid HNL; clear HSS oE oH)
    | (go_at_call 10; refine (framed_any _).mono ?_; rintro e w2 ⟨rfl, g2⟩; have g12 := g1.trans g2; have oA2 := oA.gr g2)
    | (go_at_call 16; clear HTOK; go_must (refine (Scan_at (A.take c) _ _ _ _ (by simp; omega) (by simp; omega) (by simp; omega) hAm (oA2.bytes.take c)).mono ?_; rw [HSC.out]; rintro e w3 ⟨ad3, c3, rfl, o3, g3⟩; dsimp only at o3; have g13 := g12.trans g3; have oA3 := oA2.gr g3; have hB3 := g13.size; have h3c : xs.length ≤ c3 := o3.2.1; clear HSC))
    | (at_builtin; refine wp_append elemB rfl _ _ rfl rfl (Owns.blank w3 w.heap.size 5 hB3) rfl (Src.bytes ((oA3.gr (Gr.alloc _ _)).bytes.take n) (by simp; omega) Try.underlying22) (by unfold maxLen; omega) (by omega) (by simp; omega) ?_; intro ad4 c4 w4 o4 k4 f4; have G4 := (Gr.alloc w3 (.cells #[] 5)).of_far k4 (Nat.le_refl _); rw [HTN.out, List.nil_append, Nat.zero_add] at o4; have g14 := g13.trans G4; have hB4 := g14.size; have o34 := (o3.gr G4).base (show w.heap.size ≤ w2.heap.size from g12.size); clear o3)
    | (at_builtin; go_must (refine wp_append elemS rfl _ _ rfl rfl (Owns.blank w4 w.heap.size 9 hB4) rfl (Src.own (o34.gr (Gr.alloc _ _)) sv_one Try.underlying31) (by unfold maxLen; omega) (by omega) (by simp; omega) ?_); intro ad5 c5 w5 o5 k5 f5; have G5 := (Gr.alloc w4 (.cells #[] 9)).of_far k5 (Nat.le_refl _); rw [List.nil_append, Nat.zero_add] at o5; have g15 := g14.trans G5; have o45 := o4.gr G5; have p45 := fresh_apart o4 f5 (by simp)))
  have hxs30 : xs.length ≤ 30 := by omega
  have HB0 := Lib.hid (rfl : laysF 0 xs = laysF 0 xs)
  clear oA oA2 oA3 o4 o34 e1 k4 f4 k5 f5 g1 g2 g3 g12 g13 g14 G4 G5
  have hA20 : (laysF 0 xs).length ≤ 20000 := by have := HNL.out; omega
  have hn0 : n = (laysF 0 xs).length := HNL.out
  try rw [hn0] at o45
  go_loopw [12, 13, 14, 15, 16, 17] (fun vb vw vi _ _ _ wr => ∃ (ys : List (List UInt8)) (adb adw : Option Addr) (cb cw : Nat), vb = .slice adb (laysF 0 (xs ++ ys)).length cb ∧ vw = .slice adw (xs ++ ys).length cw ∧ vi = .int .i64 (ys.length : Int) ∧
    Owns wr w.heap.size 5 1 adb cb (laysF 0 (xs ++ ys)).length (bv (laysF 0 (xs ++ ys))) ∧ Owns wr w.heap.size 9 1 adw cw (xs ++ ys).length (sv (xs ++ ys)) ∧ Apart adb adw ∧ Gr w wr ∧ ys.length ≤ more.length ∧ ys.length ≤ 10 ∧ (laysF 0 (xs ++ ys)).length ≤ 20000 + 5000 * ys.length) (fun _ _ vi _ _ _ _ => 10 - (intOf vi).toNat)
  case atStart => exact ⟨[], ad4, ad5, c4, c5, by rw [List.append_nil], by rw [List.append_nil], rfl, by rw [List.append_nil]; exact o45, by rw [List.append_nil]; exact o5, p45, g15, Nat.zero_le _, Nat.zero_le _, by rw [List.append_nil]; exact hA20⟩
  case round =>
    clear o45 o5 p45 g15 hn0 hA20
    obtain ⟨ys, adb, adw, cb, cw, rfl, rfl, rfl, oB, oW, pBW, hg, hn2, h10, h25⟩ := hrel
    have hB := hg.size
    have h4 : more.length ≤ ys.length ∨ (ys.length < more.length ∧ 10 ≤ ys.length) ∨ (ys.length < more.length ∧ ys.length < 10) := by omega
    have hyl : (xs ++ ys).length = xs.length + ys.length := List.length_append
    rcases h4 with h4 | ⟨h4, h5⟩ | ⟨h4, h5⟩
    · have HSA := Lib.hid (scan_all (xs ++ ys))
      have hcb := oB.2.1
      have hcbm := oB.2.2.1
      generalize laysF 0 (xs ++ ys) = L at *
      have HYL := Lib.hid hyl
      clear hyl
      generalize xs ++ ys = zs at *
      have hz0 : (((zs.length : Nat) : Int) == 0) = true ∨ (((zs.length : Nat) : Int) == 0) = false := by cases (((zs.length : Nat) : Int) == 0) <;> simp
      rcases hz0 with hz0 | hz0
      all_goals
        go_wp2_with (first
          | (go_at_call 16; go_must (refine (Scan_at L _ _ _ _ rfl (by omega) hcb hcbm oB.bytes).mono ?_; rw [HSA.out]; rintro e w6 ⟨ad6, c6, rfl, o6, g6⟩; dsimp only at o6))
          | (go_at_call 17; go_must (refine (Texts_same _ _ _ _ _ _ zs _ rfl rfl (by have := HYL.out; omega) o6.row (oW.gr g6).row).mono ?_; rintro e w7 ⟨rfl, g7⟩)))
        go_ret
        exact ⟨rfl, (hg.trans g6).trans g7⟩
    · have HSA := Lib.hid (scan_all (xs ++ ys))
      have hcb := oB.2.1
      have hcbm := oB.2.2.1
      generalize laysF 0 (xs ++ ys) = L at *
      have HYL := Lib.hid hyl
      clear hyl
      generalize xs ++ ys = zs at *
      have hz0 : (((zs.length : Nat) : Int) == 0) = true ∨ (((zs.length : Nat) : Int) == 0) = false := by cases (((zs.length : Nat) : Int) == 0) <;> simp
      rcases hz0 with hz0 | hz0
      all_goals
        go_wp2_with (first
          | (go_at_call 16; go_must (refine (Scan_at L _ _ _ _ rfl (by omega) hcb hcbm oB.bytes).mono ?_; rw [HSA.out]; rintro e w6 ⟨ad6, c6, rfl, o6, g6⟩; dsimp only at o6))
          | (go_at_call 17; go_must (refine (Texts_same _ _ _ _ _ _ zs _ rfl rfl (by have := HYL.out; omega) o6.row (oW.gr g6).row).mono ?_; rintro e w7 ⟨rfl, g7⟩)))
        go_ret
        exact ⟨rfl, (hg.trans g6).trans g7⟩
    · obtain ⟨b, off, rfl, hcell⟩ := HR.out _ h4
      have q := hg.cell hcell
      have hs9 := HQ.out _ h4
      generalize more[ys.length] = rec0 at *
      obtain ⟨m, hm0⟩ : ∃ m, m = min rec0.length 500 := ⟨_, rfl⟩
      have hmin : min (rec0.length : Int) 500 = (m : Int) := by omega
      have hml : m ≤ rec0.length := by omega
      have hm5 : m ≤ 500 := by omega
      clear hm0
      obtain ⟨r, hr⟩ : ∃ r, r = rec0.take m := ⟨_, rfl⟩
      have hrl : r.length = m := by rw [hr]; simp; omega
      have HLS := Lib.hid (lays_snoc (xs ++ ys) r)
      have hfb := frameF_len (laysF 0 (xs ++ ys)).length r
      generalize hAA : laysF 0 (xs ++ ys) = A' at *
      have HAA' := Lib.hid hAA; clear hAA
      have hr' : rec0.take m = r := hr.symm
      have HX := Lib.hid (show (str rec0).extract 0 (min ((str rec0).size : Int) 500).toNat = str r by rw [str_size, hmin, Int.toNat_natCast, str_extract, List.drop_zero, Nat.sub_zero, hr'])
      have HRL := Lib.hid hrl
      have hrm : r.length ≤ 500 := by omega
      clear hr hrl
      have HF := Lib.hid (fun w' adx capx (h1 : r.length ≤ capx) h2 h3 => Frame_any A'.length adx capx r w' (by omega) (by omega) h1 h2 h3)
      generalize hfbb : frameF A'.length r = fb at *
      have HFB := Lib.hid hfbb; clear hfbb
      have mA : A'.length + fb.length ≤ maxLen := by unfold maxLen; omega
      have mA' : (A'.length + fb.length) * 1 ≤ 140737488355328 := by omega
      have mE : (xs ++ ys).length + 1 ≤ maxLen := by rw [hyl]; unfold maxLen; omega
      have mE' : ((xs ++ ys).length + 1) * 16 ≤ 140737488355328 := by rw [hyl]; omega
      have HYL := Lib.hid hyl
      have PBW := Lib.hid pBW
      clear pBW hyl
      generalize hzz : xs ++ ys = zs at *
      have HZZ := Lib.hid hzz; clear hzz
      go_wp2
      go_quiet (fail)
      simp only [HX.out]
      obtain ⟨capr, w6, hrun, ob, gb, szb⟩ := bytes_str Try.underlying9 Try.underlying22 Try.underlying5 (wr.drewN nq) r (by unfold maxLen; omega)
      go_wp2_with (first
        | (go_at_call 12; refine (HF.out _ _ _ ob.2.1 ob.2.2.1 ob.bytes).mono ?_; rintro e w7 ⟨adc, capc, rfl, ob2, gb2⟩; have g07 := ((Gr.drewN wr nq).trans gb).trans gb2; have oB7 := oB.gr g07; have oW7 := oW.gr g07; have hB7 := Nat.le_trans hB g07.size)
        | (at_builtin; refine wp_append elemB rfl _ _ rfl rfl oB7 rfl (Src.bytes ob2.bytes rfl Try.underlying22) mA mA' hB7 ?_; intro ad8 c8 w8 o8 k8 f8; have oW8 := oW7.keep k8 PBW.out; have p8W := Lib.hid (PBW.out.step k8 f8 oW7); have hB8 := Nat.le_trans hB7 k8.size; have G8 := Lib.hid ((hg.trans g07).grown k8 (row_from oB7)); clear oB7 oW7)
        | (at_builtin; go_must (refine wp_append elemS rfl _ _ rfl rfl (oW8.gr (Gr.alloc _ _)) rfl (src_cell _ _ rfl Try.underlying31) mE mE' (Nat.le_trans hB8 (Gr.alloc _ _).size) ?_); intro ad9 c9 w9 o9 k9 f9; have oB9 := (o8.gr (Gr.alloc _ _)).keep k9 p8W.out.symm; have p9 := Lib.hid (p8W.out.symm.step k9 f9 (o8.gr (Gr.alloc _ _))); have G9 := Lib.hid ((G8.out.trans (Gr.alloc _ _)).grown k9 (row_from oW8))))
      go_roundw
      case rel =>
        have hl1 : (laysF 0 (xs ++ (ys ++ [r]))).length = A'.length + fb.length := by rw [← List.append_assoc, HZZ.out, HLS.out, List.length_append]
        have hl2 : (xs ++ (ys ++ [r])).length = zs.length + 1 := by rw [← List.append_assoc, HZZ.out]; simp
        have hl3 : (ys ++ [r]).length = ys.length + 1 := by simp
        refine ⟨ys ++ [r], ad8, ad9, c8, c9, by rw [hl1], by rw [hl2], by rw [hl3]; go_num, ?_, ?_, p9.out.symm, G9.out, by omega, by omega, by rw [hl1, hl3]; omega⟩
        · rw [hl1, ← List.append_assoc, HZZ.out, HLS.out, bv_append]; exact oB9
        · rw [hl2, ← List.append_assoc, HZZ.out, sv_append]; exact o9
      case measure => simp [intOf]; omega
end Go.Proofs.Ytmjhffohfppnaaa
