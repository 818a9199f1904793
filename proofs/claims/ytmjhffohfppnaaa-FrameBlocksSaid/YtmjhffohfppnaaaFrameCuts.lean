/- Layer 8 (frame): FrameCuts answers true. -/
import Derived.Test.YtmjhffohfppnaaaFrameBack
import Derived.Test.YtmjhffohfppnaaaFrameCut
namespace Go.Proofs.Ytmjhffohfppnaaa
set_option linter.unusedVariables false
set_option linter.unusedSimpArgs false
open Go.RowKit Fr
theorem Row.take {w : World} {ad : Option Addr} {vs : List Value} (h : Row w ad vs) (n : Nat) : Row w ad (vs.take n) := fun i u hi => by
  rw [List.getElem?_take] at hi
  split at hi
  · exact h i u hi
  · cases hi
theorem sv_take (l : List (List UInt8)) (n : Nat) : sv (l.take n) = (sv l).take n := by simp [sv]
theorem u64_mod_at (x : Int) (n : Nat) (h : n ≤ 1000000000) : ∃ c : Nat, IntKind.i64.wrap ((IntKind.u64.wrap x).tmod ((n : Int) + 1)) = (c : Int) ∧ c ≤ n := by
  obtain ⟨c, h1, h2⟩ := u64_mod x (n + 1) (by omega) (by omega)
  exact ⟨c, h1, by omega⟩
theorem Owns.blank (w : World) (B : Nat) (e : TypeId) (hB : B ≤ w.heap.size) : Owns (w.alloc (.cells #[] e)) B e 1 (some ⟨w.heap.size, 0, none⟩) 0 0 [] :=
  Owns.made w B #[] e (0, 0) 1 0 0 [] hB (Nat.zero_le _) (Nat.le_refl _) rfl (by simp) rfl
theorem ends_cell {w : World} {B : Nat} {e : TypeId} {ad : Option Addr} {cap n : Nat} {rs : List (List UInt8)} (o : Owns w B e 1 ad cap n (nv (endsF 0 rs))) (i : Nat) (h : i < rs.length) :
    ∃ g, ad = some ⟨g, 0, none⟩ ∧ w.cell? ⟨g, i, none⟩ = some (.int .i64 (upTo rs (i + 1) : Nat)) := by
  have h1 : (nv (endsF 0 rs))[i]? = some (.int .i64 (upTo rs (i + 1) : Nat)) := by
    unfold nv
    rw [List.getElem?_map, ends_get rs 0 i h, Nat.zero_add]; rfl
  obtain ⟨g, e1, _, hc⟩ := o.at h1
  exact ⟨g, e1, hc⟩
set_option maxRecDepth 100000 in
set_option maxHeartbeats 8000000 in
theorem FrameCuts_any (ad : Option Addr) (cap : Nat) (recs : List (List UInt8)) (x : Int) (sp : UInt8) (w : World) (hc : recs.length ≤ cap) (hm : cap ≤ maxLen) (hr : Row w ad (sv recs)) (hq : ∀ s ∈ recs, s.length ≤ 9223372036854775807) :
    Calls Try.prog 6 #[.slice ad recs.length cap, .int .i64 x, .int .u8 (sp.toNat : Int)] w fun e w' => e = .returned (.bool true) ∧ Gr w w' := by
  have HL := Lib.hid (lay_any ad cap recs w hc hm hr hq)
  have hmx : maxLen ≤ 9223372036854775807 := by decide
  have hsp := byte_hi sp
  clear hr hq
  have HTOK : RowKit.Hid True := trivial
  go_enter Try.func6, Try.ntmps6
  go_wp2_with (first
    | (go_at_call 18; refine HL.out.mono ?_; rintro e w1 ⟨rs, adA, adE, adH, cA, cE, cH, rfl, oA, oE, oH, g1, hn, h30, h20, _⟩; go_must (have HCUT := Lib.hid (scan_cut rs); have HSPL := Lib.hid (scan_spoil rs); have HUA := Lib.hid (upTo_all rs)); go_must (generalize hAA : laysF 0 rs = A at *); have HAA := Lib.hid hAA; clear hAA; have hAc : A.length ≤ cA := oA.2.1; go_must (obtain ⟨c, e1, hcA⟩ := u64_mod_at x A.length (by omega)))
    | (go_at_call 10; clear HTOK; refine (framed_any _).mono ?_; rintro e w2 ⟨rfl, g2⟩; have g12 := g1.trans g2; have oA2 := oA.gr g2; have hB2 := g12.size)
    | (go_at_call 10; refine (framed_any _).mono ?_; rintro e w3 ⟨rfl, g3⟩)
    | (at_builtin; go_must (refine wp_append elemB rfl _ _ rfl rfl (Owns.blank w2 w.heap.size 5 hB2) rfl (Src.bytes ((oA2.gr (Gr.alloc _ _)).bytes.take c) (by simp; omega) Try.underlying22) (by unfold maxLen; omega) (by omega) (by simp; omega) ?_); intro ad3 c3 w3 o3 k3 f3; have G3 := (Gr.alloc w2 (.cells #[] 5)).of_far k3 (Nat.le_refl _); rw [List.nil_append, Nat.zero_add] at o3))
  · go_ret
    exact ⟨rfl, g12.trans g3⟩
  · have hA0 : ((A.length : Int) == 0) = false := by assumption
    have hA1 : 0 < A.length := by
      rcases Nat.eq_zero_or_pos A.length with h | h
      · rw [h] at hA0; cases hA0
      · exact h
    have HA0 := Lib.hid hA0; clear hA0
    have oE2 := oE.gr g2
    have oH2 := oH.gr g2
    have hHl : rs.length ≤ cH := oH2.2.1
    have hEl : rs.length ≤ cE := oE2.2.1
    have hrs : 0 < rs.length := by
      rcases Nat.eq_zero_or_pos rs.length with h | h
      · have h2 := List.eq_nil_of_length_eq_zero h
        have h3 := HAA.out
        rw [h2] at h3
        rw [← h3] at hA1
        exact absurd hA1 (by decide)
      · exact h
    obtain ⟨gE, rfl, _⟩ := ends_cell oE2 0 hrs
    have HEC := Lib.hid (fun w' (g : Gr w2 w') i (h : i < rs.length) => by
      obtain ⟨g', e', hc'⟩ := ends_cell (oE2.gr g) i h
      cases e'
      exact hc')
    have HRH := Lib.hid (fun w' (g : Gr w2 w') (n : Nat) => by
      have := (oH2.gr g).row.take n
      rwa [← sv_take] at this)
    have HB3 := Lib.hid (fun a (h : ad3 = some a) => (show w2.heap.size ≤ a.block by
      rcases f3 a h with h | h
      · cases h; exact Nat.le_refl _
      · simp at h; omega))
    have G12 := Lib.hid g12
    clear oA oE oH oA2 e1 oE2 oH2 f3 k3 g1 g2 g12
    go_loop [11] (fun v => ∃ W : Nat, W ≤ rs.length ∧ v = .int .i64 (W : Int) ∧ upTo rs W ≤ c) (fun v => rs.length - (intOf v).toNat)
    case atStart => exact ⟨0, Nat.zero_le _, rfl, Nat.zero_le _⟩
    case round =>
      obtain ⟨W, hW, rfl, hup⟩ := hrel
      have hc3 := o3.2.1
      have HBT := Lib.hid (o3.row.bytes (l := A.take c))
      have hcm3 := o3.2.2.1
      have TK1 : RowKit.Hid True := trivial
      have TK2 : RowKit.Hid True := trivial
      by_cases hlt : W < rs.length
      · have hcE := HEC.out _ G3 W hlt
        by_cases hle : upTo rs (W + 1) ≤ c
        · go_wp2
          go_round
          case rel => exact ⟨W + 1, by omega, by go_num, hle⟩
          case measure => simp [intOf]; omega
        · have HSC := Lib.hid (HCUT.out c W hcA hW hup (.inr ⟨hlt, by omega⟩))
          have HXL := Lib.hid (show (rs.take W).length = W by simp; omega)
          have HRX := Lib.hid (fun w' g => HRH.out w' g W)
          have HSP := Lib.hid (fun V (h : V < rs.length) (h0 : 0 < c) (h1 : upTo rs V < c) (h2 : c ≤ upTo rs (V + 1)) (y : UInt8) hy => HSPL.out c V y hcA h0 (by omega) h1 ⟨h, h2⟩ hy)
          have HS0 := Lib.hid (fun (h0 : 0 < c) (h1 : upTo rs W < c) (y : UInt8) hy => HSP.out W hlt h0 h1 (by omega) y hy)
          have HLn := Lib.hid (show (A.take c).length = c by simp; omega)
          have HLA := Lib.hid (fun i (h : i < c) (h2 : i < A.length) => (show (A.take c)[i]? = some A[i] by rw [List.getElem?_take, if_pos h, List.getElem?_eq_getElem h2]))
          generalize A.take c = L at *
          generalize hq1 : upTo rs (W + 1) = q1 at *
          have hq2 : c < q1 := by omega
          generalize hxs : rs.take W = xs at *
          have HXS := Lib.hid hxs; clear hxs hle
          have hV : W = 0 ∨ ∃ V, W = V + 1 := by
            rcases Nat.eq_zero_or_pos W with h | h
            · exact .inl h
            · exact .inr ⟨W - 1, by omega⟩
          rcases hV with rfl | ⟨V, rfl⟩
          · have HECV := Lib.hid (fun (w' : World) (_ : Gr w2 w') => True.intro)
            rw [upTo_zero] at HSC hup HS0
            by_cases hc0 : c = 0
            · subst hc0
              clear hup
              go_wp2_with (first
                | (go_at_call 16; clear TK1; go_must (refine (Scan_at L _ _ _ _ HLn.out.symm (by have := HLn.out; omega) (by have := HLn.out; omega) hcm3 HBT.out).mono ?_; rw [HSC.out]; rintro e w4 ⟨ad4, cap4, rfl, o4, g4⟩; have o4r := o4.row; dsimp only at o4r; clear o4; have cV := HECV.out _ (G3.trans g4)))
                | (go_at_call 17; clear TK2; go_must (refine (Texts_same _ _ _ _ _ _ xs _ rfl HXL.out.symm (by have := HXL.out; omega) o4r (HRX.out _ (G3.trans g4))).mono ?_; rintro e w5 ⟨rfl, g5⟩; have G5 := Lib.hid (G3.trans (g4.trans g5)))))
              go_ret
              exact ⟨rfl, G12.out.trans G5.out⟩
            · obtain ⟨d, rfl⟩ : ∃ d, c = d + 1 := ⟨c - 1, by omega⟩
              by_cases hs0 : sp = 0
              · subst hs0
                clear hup
                go_wp2_with (first
                  | (go_at_call 16; clear TK1; go_must (refine (Scan_at L _ _ _ _ HLn.out.symm (by have := HLn.out; omega) (by have := HLn.out; omega) hcm3 HBT.out).mono ?_; rw [HSC.out]; rintro e w4 ⟨ad4, cap4, rfl, o4, g4⟩; have o4r := o4.row; dsimp only at o4r; clear o4; have cV := HECV.out _ (G3.trans g4)))
                  | (go_at_call 17; clear TK2; go_must (refine (Texts_same _ _ _ _ _ _ xs _ rfl HXL.out.symm (by have := HXL.out; omega) o4r (HRX.out _ (G3.trans g4))).mono ?_; rintro e w5 ⟨rfl, g5⟩; have G5 := Lib.hid (G3.trans (g4.trans g5)))))
                go_ret
                exact ⟨rfl, G12.out.trans G5.out⟩
              · obtain ⟨g3, e3, _, cb⟩ := o3.at (i := d) (u := .int .u8 ((A[d]'(by omega)).toNat : Int)) (by unfold bv; rw [List.getElem?_map, HLA.out d (by omega) (by omega)]; rfl)
                obtain rfl := e3
                have HG3 := Lib.hid (HB3.out _ rfl)
                have hA : ∀ h : d + 1 - 1 < A.length, A[d + 1 - 1]'h = A[d]'(by omega) := fun h => rfl
                generalize A[d]'(by omega) = y at *
                have hxor := b8_xor y sp
                have hne : y ≠ y ^^^ sp := by
                  intro h
                  have := congrArg (y ^^^ ·) h
                  simp only [UInt8.xor_self, ← UInt8.xor_assoc, UInt8.zero_xor] at this
                  exact hs0 this.symm
                have hys : (sp.toNat : Int) ≠ 0 := by
                  intro h
                  exact hs0 (UInt8.toNat_inj.1 (show sp.toNat = 0 by omega))
                have hyb := byte_hi y
                have hysb : ((sp.toNat : Int) == 0) = false := beq_eq_false_iff_ne.2 hys
                clear hys
                have hd1 : d < d + 1 := by omega
                obtain ⟨n2, HX2⟩ : ∃ n2, RowKit.Hid (scanF (L.set d (y ^^^ sp)) = (xs, n2)) := ⟨_, Prod.ext (HS0.out (by omega) (by omega) (y ^^^ sp) (fun h => by rw [hA h]; exact hne)) rfl⟩
                have HXL2 := HXL; have HRX2 := HRX
                obtain ⟨xs2, hxs2⟩ : ∃ xs2, xs2 = xs := ⟨_, rfl⟩
                rw [← hxs2] at HX2 HXL2 HRX2
                have HXX := Lib.hid hxs2
                clear hxs2 hup hne hA
                go_wp2_with (first
                  | (go_at_call 16; clear TK1; go_must (refine (Scan_at L _ _ _ _ HLn.out.symm (by have := HLn.out; omega) (by have := HLn.out; omega) hcm3 HBT.out).mono ?_; rw [HSC.out]; rintro e w4 ⟨ad4, cap4, rfl, o4, g4⟩; have o4r := o4.row; dsimp only at o4r; clear o4; have cV := HECV.out _ (G3.trans g4)))
                  | (go_at_call 17; clear TK2; go_must (refine (Texts_same _ _ _ _ _ _ xs _ rfl HXL.out.symm (by have := HXL.out; omega) o4r (HRX.out _ (G3.trans g4))).mono ?_; rintro e w5 ⟨rfl, g5⟩; have G5 := Lib.hid (G3.trans (g4.trans g5)); have cb5 := (g4.trans g5).cell cb; have o5 := o3.gr (g4.trans g5); have hz5 := o5.unfrozen (i := d) rfl (by omega); have G6 := Lib.hid (G5.out.setCell (p := ⟨g3, d, .none⟩) HG3.out (.int .u8 ((y ^^^ sp).toNat : Int))); have cVS := HECV.out _ G6.out; (try rw [UInt8.toNat_xor] at cVS); have ob := o5.store (i := d) rfl (by omega) (.int .u8 ((y ^^^ sp).toNat : Int)); rw [bv_set] at ob; have OB := Lib.hid ob.bytes; clear ob o5 cV))
                  | (go_at_call 16; go_must (refine (Scan_at (L.set d (y ^^^ sp)) _ _ _ _ (by rw [List.length_set]; exact HLn.out.symm) (by rw [List.length_set]; have := HLn.out; omega) (by rw [List.length_set]; have := HLn.out; omega) hcm3 OB.out).mono ?_; rw [HX2.out]; rintro e w7 ⟨ad7, cap7, rfl, o7, g7⟩; have o7r := o7.row; dsimp only at o7r; clear o7))
                  | (go_at_call 17; go_must (refine (Texts_same _ _ _ _ _ _ xs2 _ rfl HXL2.out.symm (by have := HXL2.out; omega) o7r (HRX2.out _ (G6.out.trans g7))).mono ?_; rintro e w8 ⟨rfl, g8⟩)))
                go_ret
                exact ⟨rfl, (G12.out.trans G6.out).trans (g7.trans g8)⟩
          · have hVl : V < rs.length := by omega
            have HECV := Lib.hid (fun w' g => HEC.out w' g V hVl)
            have hpos : upTo rs V < upTo rs (V + 1) := by
              have := frameF_pos (upTo rs V) (rs[V]'hVl)
              rw [upTo_succ rs V hVl]; omega
            obtain ⟨d, rfl⟩ : ∃ d, c = d + 1 := ⟨c - 1, by omega⟩
            have HSQ := Lib.hid (fun (hq : d + 1 ≤ upTo rs (V + 1)) (y : UInt8) hy => HSP.out V hVl (by omega) (by omega) hq y hy)
            generalize upTo rs (V + 1) = q at *
            clear hpos
            by_cases hs0 : sp = 0
            · subst hs0
              go_wp2_with (first
                | (go_at_call 16; clear TK1; go_must (refine (Scan_at L _ _ _ _ HLn.out.symm (by have := HLn.out; omega) (by have := HLn.out; omega) hcm3 HBT.out).mono ?_; rw [HSC.out]; rintro e w4 ⟨ad4, cap4, rfl, o4, g4⟩; have o4r := o4.row; dsimp only at o4r; clear o4; have cV := HECV.out _ (G3.trans g4)))
                | (go_at_call 17; clear TK2; go_must (refine (Texts_same _ _ _ _ _ _ xs _ rfl HXL.out.symm (by have := HXL.out; omega) o4r (HRX.out _ (G3.trans g4))).mono ?_; rintro e w5 ⟨rfl, g5⟩; have G5 := Lib.hid (G3.trans (g4.trans g5)))))
              go_ret
              exact ⟨rfl, G12.out.trans G5.out⟩
            · obtain ⟨g3, e3, _, cb⟩ := o3.at (i := d) (u := .int .u8 ((A[d]'(by omega)).toNat : Int)) (by unfold bv; rw [List.getElem?_map, HLA.out d (by omega) (by omega)]; rfl)
              obtain rfl := e3
              have HG3 := Lib.hid (HB3.out _ rfl)
              have hA : ∀ h : d + 1 - 1 < A.length, A[d + 1 - 1]'h = A[d]'(by omega) := fun h => rfl
              generalize A[d]'(by omega) = y at *
              have hxor := b8_xor y sp
              have hne : y ≠ y ^^^ sp := by
                intro h
                have := congrArg (y ^^^ ·) h
                simp only [UInt8.xor_self, ← UInt8.xor_assoc, UInt8.zero_xor] at this
                exact hs0 this.symm
              have hys : (sp.toNat : Int) ≠ 0 := by
                intro h
                exact hs0 (UInt8.toNat_inj.1 (show sp.toNat = 0 by omega))
              have hyb := byte_hi y
              have hysb : ((sp.toNat : Int) == 0) = false := beq_eq_false_iff_ne.2 hys
              clear hys
              have hd1 : d < d + 1 := by omega
              by_cases hqc : q < d + 1
              · obtain ⟨n2, HX2⟩ : ∃ n2, RowKit.Hid (scanF (L.set d (y ^^^ sp)) = (xs, n2)) := ⟨_, Prod.ext (HS0.out (by omega) hqc (y ^^^ sp) (fun h => by rw [hA h]; exact hne)) rfl⟩
                have hqe : ((q : Int) == (d : Int) + 1) = false := by rw [beq_eq_false_iff_ne]; omega
                have HXL2 := HXL; have HRX2 := HRX
                obtain ⟨xs2, hxs2⟩ : ∃ xs2, xs2 = xs := ⟨_, rfl⟩
                rw [← hxs2] at HX2 HXL2 HRX2
                have HXX := Lib.hid hxs2
                clear hxs2 hne hA hqc
                go_wp2_with (first
                  | (go_at_call 16; clear TK1; go_must (refine (Scan_at L _ _ _ _ HLn.out.symm (by have := HLn.out; omega) (by have := HLn.out; omega) hcm3 HBT.out).mono ?_; rw [HSC.out]; rintro e w4 ⟨ad4, cap4, rfl, o4, g4⟩; have o4r := o4.row; dsimp only at o4r; clear o4; have cV := HECV.out _ (G3.trans g4)))
                  | (go_at_call 17; clear TK2; go_must (refine (Texts_same _ _ _ _ _ _ xs _ rfl HXL.out.symm (by have := HXL.out; omega) o4r (HRX.out _ (G3.trans g4))).mono ?_; rintro e w5 ⟨rfl, g5⟩; have G5 := Lib.hid (G3.trans (g4.trans g5)); have cb5 := (g4.trans g5).cell cb; have o5 := o3.gr (g4.trans g5); have hz5 := o5.unfrozen (i := d) rfl (by omega); have G6 := Lib.hid (G5.out.setCell (p := ⟨g3, d, .none⟩) HG3.out (.int .u8 ((y ^^^ sp).toNat : Int))); have cVS := HECV.out _ G6.out; (try rw [UInt8.toNat_xor] at cVS); have ob := o5.store (i := d) rfl (by omega) (.int .u8 ((y ^^^ sp).toNat : Int)); rw [bv_set] at ob; have OB := Lib.hid ob.bytes; clear ob o5 cV))
                  | (go_at_call 16; go_must (refine (Scan_at (L.set d (y ^^^ sp)) _ _ _ _ (by rw [List.length_set]; exact HLn.out.symm) (by rw [List.length_set]; have := HLn.out; omega) (by rw [List.length_set]; have := HLn.out; omega) hcm3 OB.out).mono ?_; rw [HX2.out]; rintro e w7 ⟨ad7, cap7, rfl, o7, g7⟩; have o7r := o7.row; dsimp only at o7r; clear o7))
                  | (go_at_call 17; go_must (refine (Texts_same _ _ _ _ _ _ xs2 _ rfl HXL2.out.symm (by have := HXL2.out; omega) o7r (HRX2.out _ (G6.out.trans g7))).mono ?_; rintro e w8 ⟨rfl, g8⟩)))
                go_ret
                exact ⟨rfl, (G12.out.trans G6.out).trans (g7.trans g8)⟩
              · obtain rfl : q = d + 1 := by omega
                obtain ⟨n2, HX2⟩ : ∃ n2, RowKit.Hid (scanF (L.set d (y ^^^ sp)) = (rs.take V, n2)) := ⟨_, Prod.ext (HSQ.out (Nat.le_refl _) (y ^^^ sp) (fun h => by rw [hA h]; exact hne)) rfl⟩
                have HXL2 := Lib.hid (show (rs.take V).length = V by simp; omega)
                have HRX2 := Lib.hid (fun w' g => HRH.out w' g V)
                generalize hxs2 : rs.take V = xs2 at *
                have HXX := Lib.hid hxs2
                clear hxs2 hne hA hqc
                go_wp2_with (first
                  | (go_at_call 16; clear TK1; go_must (refine (Scan_at L _ _ _ _ HLn.out.symm (by have := HLn.out; omega) (by have := HLn.out; omega) hcm3 HBT.out).mono ?_; rw [HSC.out]; rintro e w4 ⟨ad4, cap4, rfl, o4, g4⟩; have o4r := o4.row; dsimp only at o4r; clear o4; have cV := HECV.out _ (G3.trans g4)))
                  | (go_at_call 17; clear TK2; go_must (refine (Texts_same _ _ _ _ _ _ xs _ rfl HXL.out.symm (by have := HXL.out; omega) o4r (HRX.out _ (G3.trans g4))).mono ?_; rintro e w5 ⟨rfl, g5⟩; have G5 := Lib.hid (G3.trans (g4.trans g5)); have cb5 := (g4.trans g5).cell cb; have o5 := o3.gr (g4.trans g5); have hz5 := o5.unfrozen (i := d) rfl (by omega); have G6 := Lib.hid (G5.out.setCell (p := ⟨g3, d, .none⟩) HG3.out (.int .u8 ((y ^^^ sp).toNat : Int))); have cVS := HECV.out _ G6.out; (try rw [UInt8.toNat_xor] at cVS); have ob := o5.store (i := d) rfl (by omega) (.int .u8 ((y ^^^ sp).toNat : Int)); rw [bv_set] at ob; have OB := Lib.hid ob.bytes; clear ob o5 cV))
                  | (go_at_call 16; go_must (refine (Scan_at (L.set d (y ^^^ sp)) _ _ _ _ (by rw [List.length_set]; exact HLn.out.symm) (by rw [List.length_set]; have := HLn.out; omega) (by rw [List.length_set]; have := HLn.out; omega) hcm3 OB.out).mono ?_; rw [HX2.out]; rintro e w7 ⟨ad7, cap7, rfl, o7, g7⟩; have o7r := o7.row; dsimp only at o7r; clear o7))
                  | (go_at_call 17; go_must (refine (Texts_same _ _ _ _ _ _ xs2 _ rfl HXL2.out.symm (by have := HXL2.out; omega) o7r (HRX2.out _ (G6.out.trans g7))).mono ?_; rintro e w8 ⟨rfl, g8⟩)))
                go_ret
                exact ⟨rfl, (G12.out.trans G6.out).trans (g7.trans g8)⟩
      · obtain ⟨V, rfl⟩ : ∃ V, W = V + 1 := ⟨W - 1, by omega⟩
        have hrV : rs.length ≤ V + 1 := by omega
        have hrW : V + 1 = rs.length := by omega
        have HSC := Lib.hid (HCUT.out c (V + 1) hcA hW hup (.inl hrW))
        have HXL := Lib.hid (show (rs.take (V + 1)).length = V + 1 by simp; omega)
        have HRX := Lib.hid (fun w' g => HRH.out w' g (V + 1))
        have HSP := Lib.hid (fun V (h : V < rs.length) (h0 : 0 < c) (h1 : upTo rs V < c) (h2 : c ≤ upTo rs (V + 1)) (y : UInt8) hy => HSPL.out c V y hcA h0 (by omega) h1 ⟨h, h2⟩ hy)
        have hfull : upTo rs (V + 1) = A.length := by rw [hrW]; exact HUA.out
        have hcq : c ≤ upTo rs (V + 1) := by omega
        have HLn := Lib.hid (show (A.take c).length = c by simp; omega)
        have HLA := Lib.hid (fun i (h : i < c) (h2 : i < A.length) => (show (A.take c)[i]? = some A[i] by rw [List.getElem?_take, if_pos h, List.getElem?_eq_getElem h2]))
        have HS0 := Lib.hid (fun (h0 : 0 < c) (h1 : upTo rs (V + 1) < c) (y : UInt8) (hy : ∀ h : c - 1 < A.length, A[c - 1]'h ≠ y) => (show (scanF ((A.take c).set (c - 1) y)).1 = rs.take (V + 1) from absurd h1 (by omega)))
        generalize A.take c = L at *
        generalize hxs : rs.take (V + 1) = xs at *
        have HXS := Lib.hid hxs
        clear hxs hlt hfull hrW
        have hVl : V < rs.length := by omega
        have HECV := Lib.hid (fun w' g => HEC.out w' g V hVl)
        have hpos : upTo rs V < upTo rs (V + 1) := by
          have := frameF_pos (upTo rs V) (rs[V]'hVl)
          rw [upTo_succ rs V hVl]; omega
        obtain ⟨d, rfl⟩ : ∃ d, c = d + 1 := ⟨c - 1, by omega⟩
        have HSQ := Lib.hid (fun (hq : d + 1 ≤ upTo rs (V + 1)) (y : UInt8) hy => HSP.out V hVl (by omega) (by omega) hq y hy)
        generalize upTo rs (V + 1) = q at *
        clear hpos
        by_cases hs0 : sp = 0
        · subst hs0
          go_wp2_with (first
            | (go_at_call 16; clear TK1; go_must (refine (Scan_at L _ _ _ _ HLn.out.symm (by have := HLn.out; omega) (by have := HLn.out; omega) hcm3 HBT.out).mono ?_; rw [HSC.out]; rintro e w4 ⟨ad4, cap4, rfl, o4, g4⟩; have o4r := o4.row; dsimp only at o4r; clear o4; have cV := HECV.out _ (G3.trans g4)))
            | (go_at_call 17; clear TK2; go_must (refine (Texts_same _ _ _ _ _ _ xs _ rfl HXL.out.symm (by have := HXL.out; omega) o4r (HRX.out _ (G3.trans g4))).mono ?_; rintro e w5 ⟨rfl, g5⟩; have G5 := Lib.hid (G3.trans (g4.trans g5)))))
          go_ret
          exact ⟨rfl, G12.out.trans G5.out⟩
        · obtain ⟨g3, e3, _, cb⟩ := o3.at (i := d) (u := .int .u8 ((A[d]'(by omega)).toNat : Int)) (by unfold bv; rw [List.getElem?_map, HLA.out d (by omega) (by omega)]; rfl)
          obtain rfl := e3
          have HG3 := Lib.hid (HB3.out _ rfl)
          have hA : ∀ h : d + 1 - 1 < A.length, A[d + 1 - 1]'h = A[d]'(by omega) := fun h => rfl
          generalize A[d]'(by omega) = y at *
          have hxor := b8_xor y sp
          have hne : y ≠ y ^^^ sp := by
            intro h
            have := congrArg (y ^^^ ·) h
            simp only [UInt8.xor_self, ← UInt8.xor_assoc, UInt8.zero_xor] at this
            exact hs0 this.symm
          have hys : (sp.toNat : Int) ≠ 0 := by
            intro h
            exact hs0 (UInt8.toNat_inj.1 (show sp.toNat = 0 by omega))
          have hyb := byte_hi y
          have hysb : ((sp.toNat : Int) == 0) = false := beq_eq_false_iff_ne.2 hys
          clear hys
          have hd1 : d < d + 1 := by omega
          have hqc : ¬ q < d + 1 := by omega
          obtain rfl : q = d + 1 := by omega
          obtain ⟨n2, HX2⟩ : ∃ n2, RowKit.Hid (scanF (L.set d (y ^^^ sp)) = (rs.take V, n2)) := ⟨_, Prod.ext (HSQ.out (Nat.le_refl _) (y ^^^ sp) (fun h => by rw [hA h]; exact hne)) rfl⟩
          have HXL2 := Lib.hid (show (rs.take V).length = V by simp; omega)
          have HRX2 := Lib.hid (fun w' g => HRH.out w' g V)
          generalize hxs2 : rs.take V = xs2 at *
          have HXX := Lib.hid hxs2
          clear hxs2 hne hA hqc
          go_wp2_with (first
            | (go_at_call 16; clear TK1; go_must (refine (Scan_at L _ _ _ _ HLn.out.symm (by have := HLn.out; omega) (by have := HLn.out; omega) hcm3 HBT.out).mono ?_; rw [HSC.out]; rintro e w4 ⟨ad4, cap4, rfl, o4, g4⟩; have o4r := o4.row; dsimp only at o4r; clear o4; have cV := HECV.out _ (G3.trans g4)))
            | (go_at_call 17; clear TK2; go_must (refine (Texts_same _ _ _ _ _ _ xs _ rfl HXL.out.symm (by have := HXL.out; omega) o4r (HRX.out _ (G3.trans g4))).mono ?_; rintro e w5 ⟨rfl, g5⟩; have G5 := Lib.hid (G3.trans (g4.trans g5)); have cb5 := (g4.trans g5).cell cb; have o5 := o3.gr (g4.trans g5); have hz5 := o5.unfrozen (i := d) rfl (by omega); have G6 := Lib.hid (G5.out.setCell (p := ⟨g3, d, .none⟩) HG3.out (.int .u8 ((y ^^^ sp).toNat : Int))); have cVS := HECV.out _ G6.out; (try rw [UInt8.toNat_xor] at cVS); have ob := o5.store (i := d) rfl (by omega) (.int .u8 ((y ^^^ sp).toNat : Int)); rw [bv_set] at ob; have OB := Lib.hid ob.bytes; clear ob o5 cV))
            | (go_at_call 16; go_must (refine (Scan_at (L.set d (y ^^^ sp)) _ _ _ _ (by rw [List.length_set]; exact HLn.out.symm) (by rw [List.length_set]; have := HLn.out; omega) (by rw [List.length_set]; have := HLn.out; omega) hcm3 OB.out).mono ?_; rw [HX2.out]; rintro e w7 ⟨ad7, cap7, rfl, o7, g7⟩; have o7r := o7.row; dsimp only at o7r; clear o7))
            | (go_at_call 17; go_must (refine (Texts_same _ _ _ _ _ _ xs2 _ rfl HXL2.out.symm (by have := HXL2.out; omega) o7r (HRX2.out _ (G6.out.trans g7))).mono ?_; rintro e w8 ⟨rfl, g8⟩)))
          go_ret
          exact ⟨rfl, (G12.out.trans G6.out).trans (g7.trans g8)⟩
end Go.Proofs.Ytmjhffohfppnaaa
