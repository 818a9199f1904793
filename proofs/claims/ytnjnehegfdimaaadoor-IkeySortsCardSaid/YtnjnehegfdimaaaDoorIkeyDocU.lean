/- Layer 5 (ikey): the reference's DocUnsort. -/
import Derived.Test.YtnjnehegfdimaaaDoorIkeyDocS
namespace Go.Proofs.YtnjnehegfdimaaaDoor
set_option linter.unusedVariables false
set_option linter.unusedSimpArgs false
open Go.RowKit Ikey Varint
open Go.Op (bytesLess)
theorem scanL_end {r : List UInt8} (h : r.length ≤ 1) : scanL r = ([], 0) := by
  match r, h with
  | [], _ => rfl
  | [_], _ => rfl
theorem scanL_stop {y : UInt8} {r : List UInt8} (h : y ≠ 255) : scanL (0 :: y :: r) = ([], 0) := by
  rw [scanL, if_pos rfl, if_neg h]
theorem scanL_zero {r : List UInt8} : scanL (0 :: 255 :: r) = (0 :: (scanL r).1, (scanL r).2 + 2) := by
  rw [scanL, if_pos rfl, if_pos rfl]
theorem scanL_other {x y : UInt8} {r : List UInt8} (h : x ≠ 0) : scanL (x :: y :: r) = (x :: (scanL (y :: r)).1, (scanL (y :: r)).2 + 1) := by
  rw [scanL, if_neg h]
theorem drop_one (l : List UInt8) (j : Nat) (h : j < l.length) : l.drop j = l[j] :: l.drop (j + 1) := List.drop_eq_getElem_cons h
theorem docUnsF_at {l K m : List UInt8} {j D : Nat} (hs : scanL l = (K, j)) (hl : l.length = j + 10) (hm : m = l.drop (j + 2)) {h : j + 9 < l.length} (hD : D = 255 - (l[j + 9]'h).toNat) :
    docUnsF l = if okV K ((docSeq m : Nat) : Int) (D : Int) = true ∧ sortF K (docSeq m) D = l then some (K, docSeq m, D) else none := by
  have e : l.getD (j + 2 + 7) 0 = l[j + 9]'h := by simp [List.getD_eq_getElem?_getD, h]
  unfold docUnsF
  rw [hs]
  simp only
  rw [if_pos (by omega), e, ← hm, ← hD]
set_option maxRecDepth 100000 in
set_option maxHeartbeats 4000000 in
theorem rDocUnsort_any (l : List UInt8) (w : World) (hm : l.length ≤ 140737488351232) :
    Calls Tryd.prog 12 #[.string (str l)] w fun e w' => e = .returned (outV (docUnsF l)) ∧ Gr w w' := by
  have HG1 := Lib.hid (Gr.refl (w.alloc (.cells #[.string ⟨#[]⟩, .int .i64 0, .int .i64 0] 23)))
  obtain ⟨W1, hW1⟩ : ∃ W1, W1 = w.alloc (.cells #[.string ⟨#[]⟩, .int .i64 0, .int .i64 0] 23) := ⟨_, rfl⟩
  go_enter Tryd.func12, Tryd.ntmps12
  go_wp2
  rw [← hW1] at HG1 ⊢
  have HW1 := Lib.hid hW1
  clear hW1
  go_loopw [4, 5] (fun v i wr => ∃ (j : Nat) (K : List UInt8) (ad : Option Addr) (cp : Nat), j ≤ l.length ∧ K.length ≤ j ∧ i = .int .i64 (j : Int) ∧ v = .slice ad K.length cp ∧ Owns wr W1.heap.size 5 1 ad cp K.length (bv K) ∧ Gr W1 wr ∧ scanL l = (K ++ (scanL (l.drop j)).1, j + (scanL (l.drop j)).2)) (fun _ i _ => l.length - (intOf i).toNat)
  case atStart => exact ⟨0, [], none, 0, Nat.zero_le _, Nat.le_refl _, rfl, rfl, Owns.empty _ _ _ _, HG1.out, by simp⟩
  case round =>
    clear HG1
    obtain ⟨j, K, ad, cp, hj, hKj, rfl, rfl, ho, hg, hu⟩ := hrel
    have HU := Lib.hid hu
    clear hu
    by_cases hj1 : j + 1 < l.length
    · have hjl : j < l.length := by omega
      have HD := Lib.hid (drop_one l j hjl)
      have HD2 := Lib.hid (drop_one l (j + 1) hj1)
      have hby := byte_hi l[j]
      have hby2 := byte_hi l[j + 1]
      have m1 : K.length + 1 ≤ maxLen := by unfold maxLen; omega
      have m2 : (K.length + 1) * 1 ≤ 140737488355328 := by omega
      have hbs : W1.heap.size ≤ (wr.alloc (.cells #[.int .u8 (l[j].toNat : Int)] 5)).heap.size := Nat.le_trans hg.size (Gr.alloc _ _).size
      by_cases hx : l[j] = 0
      · have hx1 : ((l[j].toNat : Int) != 0) = false := by rw [hx]; rfl
        have hx2 : ((l[j].toNat : Int) == 0) = true := by rw [hx]; rfl
        by_cases hy : l[j + 1] = 255
        · have hy1 : ((l[j + 1].toNat : Int) == 255) = true := by rw [hy]; rfl
          have HN := Lib.hid (show scanL l = ((K ++ [l[j]]) ++ (scanL (l.drop (j + 1 + 1))).1, j + 1 + 1 + (scanL (l.drop (j + 1 + 1))).2) by
            rw [HU.out, HD.out, HD2.out, hx, hy, scanL_zero]; simp; omega)
          clear hx hy
          go_wp2_with (at_builtin; go_must (refine wp_append elemB rfl _ _ rfl rfl (ho.gr (Gr.alloc _ _)) rfl (Src.one _ _ l[j] rfl Tryd.underlying25) m1 m2 hbs ?_); intro ad2 cp2 w4 o4 k4 f4)
          have G4 := hg.app ho (Nat.le_refl _) k4
          rw [← bv_append] at o4
          go_roundw
          case rel => exact ⟨j + 1 + 1, K ++ [l[j]], ad2, cp2, by omega, by simp; omega, by go_num, by rw [List.length_append]; rfl, by rw [List.length_append]; exact o4, G4, HN.out⟩
          case measure => simp [intOf]; omega
        · have hy1 : ((l[j + 1].toNat : Int) == 255) = false := by rw [beq_eq_false_iff_ne]; exact fun e => hy (UInt8.toNat_inj.1 (by exact_mod_cast e))
          have HE := Lib.hid (show scanL (l.drop j) = ([], 0) by rw [HD.out, HD2.out, hx, scanL_stop hy])
          clear hx hy
          have HS := Lib.hid (show scanL l = (K, j) by rw [HU.out, HE.out]; simp)
          generalize wr = W2 at *
          have hG2 := hg
          rw [HW1.out] at hG2
          have hR := Blk.of1 hG2
          obtain ⟨r0, r1, r2, q0, q1, q2⟩ := hR.three
          by_cases h8 : l.length = j + 10
          · have hn8 : ((l.length : Int) - ((j : Int) + 2) != 8) = false := by rw [bne_eq_false_iff_eq]; omega
            have x0 : j + 9 < l.length := by omega
            have hx := byte_hi (l[j + 9]'x0)
            have e1 : IntKind.i64.wrap ((j : Int) + 2 + 7) = (j : Int) + 9 := by rw [IntWalk.i64_in _ ⟨by omega, by omega⟩]; omega
            have e2 : IntKind.i64.wrap (255 - ((l[j + 9]'x0).toNat : Int)) = 255 - ((l[j + 9]'x0).toNat : Int) := IntWalk.i64_in _ ⟨by omega, by omega⟩
            have e3 : ((j : Int) + 9).toNat = j + 9 := by omega
            have hi3 : (j : Int) + 9 < (l.length : Int) := by omega
            have hi4 : 0 ≤ (j : Int) + 9 := by omega
            have HL := Lib.hid h8
            have HO := Lib.hid ho
            clear h8 hg ho
            go_wp2
            refine region_tail_gr 10 _ [Is ?r0, Is (.string (str K)), Is ?r2, Is ?r3, Is (.int .i64 ((j : Int) + 9)), Is (.int .u8 ((l[j + 9]'x0).toNat : Int)), Is (.int .i64 ((l[j + 9]'x0).toNat : Int)), Is (.int .i64 (255 - ((l[j + 9]'x0).toNat : Int))), Is (.agg #[.string (str K), .int .i64 0, .int .i64 (255 - ((l[j + 9]'x0).toNat : Int))]), NewBlk W2.heap.size 23 [.string ⟨#[]⟩, .int .i64 0, .int .i64 0]] (by kernel_rfl) (by kernel_rfl) (by kernel_rfl) (by kernel_rfl) rfl rfl ⟨Is.stable _, Is.stable _, Is.stable _, Is.stable _, Is.stable _, Is.stable _, Is.stable _, Is.stable _, Is.stable _, NewBlk.stable _ _ _, trivial⟩ ⟨?s0, ?s1, ?s2, ?s3, ?s4, ?s5, ?s6, ?s7, ?s8, ?s9, trivial⟩ ?fin
            case' s0 | s1 | s2 | s3 | s4 | s5 | s6 | s7 | s8 | s9 =>
              intro ρ wr hρ hg hK
              simp [readsOf, slotsOf, Op.operands, Call.operands, tmpOf, List.filterMap_cons, List.filterMap_nil, KnownAll, knownOf, srcOf, depsOf, dstOf, Region.binds, nth, Is] at hK
              obtain ⟨hc, hf, hgl⟩ := hρ
              try simp only [wantedBy, dstOf, boolOf, nth, List.getD_cons_zero, List.getD_cons_succ, List.getElem?_cons_zero, List.getElem?_cons_succ, Option.bind_some, if_true, hK, BEq.rfl]
              try go_simp
              first | exact rfl | (rw [if_pos (by omega)]; exact is_here rfl) | (rw [dif_pos (by omega)]; exact is_here rfl) | exact congrArg (Value.int _) (IntWalk.i64_in _ ⟨by omega, by omega⟩) | skip
            case s1 => rw [run_string (P := Tryd.prog) Tryd.underlying25 Tryd.underlying5 Tryd.underlying9 rfl (HO.out.gr hg).bytes]; exact ⟨Gr.refl _, rfl⟩
            case s9 => exact ⟨Gr.alloc _ _, wr.heap.size, rfl, hg.size, Blk.new _ _ _⟩
            case fin =>
              intro w1 val hg hH
              simp only [Holds, Is, Nat.zero_add, Nat.reduceAdd] at hH
              obtain ⟨h0, h1, h2, h3, h4, h5, h6, h7, h8, h9, _⟩ := hH
              simp only [List.take_succ_cons, List.take_zero, List.drop_succ_cons, List.drop_zero, putAll, h0, h1, h2, h3, h4, h5, h6, h7, h8, Nat.zero_add, Nat.reduceAdd]
              obtain ⟨g, h9, hgB, hbl⟩ := h9
              simp only [h9]
              go_simp
              obtain ⟨c0, c1, c2, f0, f1, f2⟩ := hbl.three
              go_wp2
              have hne : w.heap.size ≠ g := by have := hg.size; have := hG2.size; simp at this; omega
              have hwg : w.heap.size ≤ g := by have := hg.size; have := hG2.size; simp at this; omega
              obtain ⟨D, hDx⟩ : ∃ D : Nat, D = 255 - (l[j + 9]'x0).toNat := ⟨_, rfl⟩
              have hDi : 255 - ((l[j + 9]'x0).toNat : Int) = (D : Int) := by omega
              have hD255 : D ≤ 255 := by omega
              obtain ⟨m, hm2⟩ : ∃ m, m = l.drop (j + 2) := ⟨_, rfl⟩
              have HDU := Lib.hid (docUnsF_at HS.out HL.out hm2 hDx)
              have HM8 := Lib.hid (show m.length = 8 by rw [hm2, List.length_drop, HL.out]; omega)
              have HMI := Lib.hid (show ∀ t (h1 : j + 2 + t < l.length) (h2 : t < m.length), l[j + 2 + t]'h1 = m[t]'h2 from fun t h1 h2 => by subst hm2; rw [List.getElem_drop])
              have hg0 := hg
              rw [hDi] at h7 h8 ⊢
              have hb2 := ((hbl.set_ 0 (.string (str K))).set_ 1 (.int .i64 0)).set_ 2 (.int .i64 (D : Int))
              have hr2 := ((hR.gr hg).far (p := ⟨g, 0, none⟩) hne (.string (str K))).far (p := ⟨g, 1, none⟩) hne (.int .i64 0) |>.far (p := ⟨g, 2, none⟩) hne (.int .i64 (D : Int))
              have hgw := (((((Gr.alloc w _).trans hG2).trans hg).setCell (p := ⟨g, 0, none⟩) hwg (.string (str K))).setCell (p := ⟨g, 1, none⟩) hwg (.int .i64 0)).setCell (p := ⟨g, 2, none⟩) hwg (.int .i64 (D : Int))
              simp only [List.set_cons_zero, List.set_cons_succ] at hb2
              have hHB := Lib.hid hb2; have hHR := Lib.hid hr2; have hHG := Lib.hid hgw
              have HL2 := Lib.hid (show j + 10 = l.length from HL.out.symm)
              have hj10 : j + 10 ≤ l.length := by rw [HL.out]; exact Nat.le_refl _
              clear hb2 hr2 hgw hg0 h0 h1 h2 h3 h4 h5 h6 h7 h8 hg hDi hDx hm2 e1 e2 e3 hi3 hi4 hn8 hby hby2 hx1 hx2 hy1 hbs r0 r1 r2 q0 q1 q2 c0 c1 c2 f0 f1 f2 hbl hR HO hx
              go_loopw [7] (fun i wr => ∃ t : Nat, t ≤ 7 ∧ i = .int .i64 (t : Int) ∧ Blk wr g 23 [.string (str K), .int .i64 (beV ((m.take t).map inv8) : Nat), .int .i64 (D : Int)] ∧ Blk wr w.heap.size 23 [.string ⟨#[]⟩, .int .i64 0, .int .i64 0] ∧ Gr w wr) (fun i _ => 7 - (intOf i).toNat)
              case atStart => exact ⟨0, by omega, rfl, hHB.out, hHR.out, hHG.out⟩
              case round =>
                clear hHB hHR hHG
                obtain ⟨t, ht, rfl, hb, hr, hg⟩ := hrel
                obtain ⟨c0, c1, c2, f0, f1, f2⟩ := hb.three
                by_cases ht7 : t < 7
                · have hin : j + 2 + t < l.length := by omega
                  have htm : t < m.length := by rw [HM8.out]; omega
                  have hsq : beV ((m.take (t + 1)).map inv8) = beV ((m.take t).map inv8) * 256 + (255 - (l[j + 2 + t]'hin).toNat) := by
                    rw [List.take_succ_eq_append_getElem htm, List.map_append, HMI.out t hin htm]
                    show beV (_ ++ [inv8 _]) = _
                    rw [beV_snoc, inv8_nat]
                  have hlt := beV_lt ((m.take t).map inv8)
                  have hlt2 : 256 ^ ((m.take t).map inv8).length ≤ 256 ^ 6 := Nat.pow_le_pow_right (by omega) (by simp; omega)
                  have hp6 : (256 : Nat) ^ 6 = 281474976710656 := by decide
                  rw [hp6] at hlt2
                  have hSb : beV ((m.take t).map inv8) < 281474976710656 := Nat.lt_of_lt_of_le hlt hlt2
                  have HSQ := Lib.hid hsq
                  clear hsq hlt hlt2 hp6
                  have hby := byte_hi (l[j + 2 + t]'hin)
                  generalize beV ((m.take t).map inv8) = S at *
                  have hb3 := hb.set_ 1 (.int .i64 (beV ((m.take (t + 1)).map inv8) : Nat))
                  simp only [List.set_cons_zero, List.set_cons_succ] at hb3
                  have hr3 := hr.far (p := ⟨g, 1, none⟩) hne (.int .i64 (beV ((m.take (t + 1)).map inv8) : Nat))
                  have HX := Lib.hid (show (S : Int) * 256 + 255 - ((l[j + 2 + t]'hin).toNat : Int) = ((beV ((m.take (t + 1)).map inv8) : Nat) : Int) by rw [HSQ.out]; omega)
                  have E1 := Lib.hid (show IntKind.i64.wrap ((S : Int) * 256) = (S : Int) * 256 from IntWalk.i64_in _ ⟨by omega, by omega⟩)
                  have E2 := Lib.hid (show IntKind.i64.wrap ((S : Int) * 256 + 255) = (S : Int) * 256 + 255 from IntWalk.i64_in _ ⟨by omega, by omega⟩)
                  have E3 := Lib.hid (show IntKind.i64.wrap ((S : Int) * 256 + 255 - ((l[j + 2 + t]'hin).toNat : Int)) = ((beV ((m.take (t + 1)).map inv8) : Nat) : Int) by rw [IntWalk.i64_in _ ⟨by omega, by omega⟩]; exact HX.out)
                  have E4 := Lib.hid (show IntKind.i64.wrap ((j : Int) + 2 + (t : Int)) = (j : Int) + 2 + (t : Int) from IntWalk.i64_in _ ⟨by omega, by omega⟩)
                  have E5 := Lib.hid (show ((j : Int) + 2 + (t : Int)).toNat = j + 2 + t by omega)
                  have hi3 : (j : Int) + 2 + (t : Int) < (l.length : Int) := by omega
                  have hi4 : 0 ≤ (j : Int) + 2 + (t : Int) := by omega
                  go_wp2
                  have e1 := E1.out; have e2 := E2.out; have e3 := E3.out; have e4 := E4.out; have e5 := E5.out
                  go_still_tail 12, (by kernel_rfl)
                  clear e1 e2 e3
                  go_wp2
                  go_roundw
                  case rel =>
                    rw [HX.out]
                    exact ⟨t + 1, ht7, by go_num, hb3, hr3, (hg.setCell (p := ⟨g, 1, none⟩) hwg _).trans (Gr.drew _)⟩
                  case measure => simp [intOf]; omega
                · obtain rfl : t = 7 := by omega
                  have hSe : beV ((m.take 7).map inv8) = docSeq m := rfl
                  rw [hSe] at hb c1
                  have hSlt : docSeq m < 72057594037927936 := by
                    have h := beV_lt ((m.take 7).map inv8)
                    have h2 : ((m.take 7).map inv8).length = 7 := by rw [List.length_map, List.length_take, HM8.out]; rfl
                    rw [h2] at h
                    exact h
                  have HDU2 := HDU.out
                  clear hSe
                  generalize docSeq m = S at *
                  cases ho : okV K (S : Int) (D : Int) with
                  | false =>
                    have HC := Lib.hid (fun w => rDocSortable_no K S D w ho)
                    rw [ho] at HDU2
                    have HN := Lib.hid (show docUnsF l = none by rw [HDU2]; rfl)
                    clear HDU2 ho
                    unfold ver at HC
                    go_wp2_with
                      (go_at_call 11; (with_reducible refine (HC.out wr).mono ?_); rintro e w2 ⟨rfl, g2⟩; obtain ⟨c0, c1, c2, f0, f1, f2⟩ := (hb.gr g2).three; obtain ⟨r0, r1, r2, q0, q1, q2⟩ := (hr.gr g2).three)
                    refine bodyPost_ret (v := outV none) (by simp [results, Tryd.results12, go_sem, outV, ver, r0, r1, r2]; rfl) rfl ⟨by rw [HN.out], ?_⟩
                    exact ((hg.trans g2).setCell (Nat.le_refl _) _).setCell (Nat.le_refl _) _ |>.setCell (Nat.le_refl _) _
                  | true =>
                    have HC := Lib.hid (fun w => rDocSortable_yes K S D w ho)
                    rw [ho] at HDU2
                    unfold ver at HC
                    by_cases hsl : sortF K S D = l
                    · have HN := Lib.hid (show docUnsF l = some (K, S, D) by rw [HDU2, if_pos ⟨rfl, hsl⟩])
                      clear HDU2 ho
                      rw [hsl] at HC
                      clear hsl
                      go_wp2_with
                        (go_at_call 11; (with_reducible refine (HC.out wr).mono ?_); rintro e w2 ⟨rfl, g2⟩; obtain ⟨c0, c1, c2, f0, f1, f2⟩ := (hb.gr g2).three; obtain ⟨r0, r1, r2, q0, q1, q2⟩ := (hr.gr g2).three)
                      refine bodyPost_ret (v := outV (some (K, S, D))) (by simp [results, Tryd.results12, go_sem, outV, ver, r0, r1, r2]) rfl ⟨by rw [HN.out], ?_⟩
                      exact ((hg.trans g2).setCell (Nat.le_refl _) _).setCell (Nat.le_refl _) _ |>.setCell (Nat.le_refl _) _
                    · have HN := Lib.hid (show docUnsF l = none by rw [HDU2, if_neg (fun h => hsl h.2)])
                      clear HDU2 ho
                      generalize sortF K S D = R at *
                      have hbn : (R == l) = false := beq_eq_false_iff_ne.2 hsl
                      clear hsl
                      go_wp2_with
                        (go_at_call 11; (with_reducible refine (HC.out wr).mono ?_); rintro e w2 ⟨rfl, g2⟩; obtain ⟨c0, c1, c2, f0, f1, f2⟩ := (hb.gr g2).three; obtain ⟨r0, r1, r2, q0, q1, q2⟩ := (hr.gr g2).three)
                      refine bodyPost_ret (v := outV none) (by simp [results, Tryd.results12, go_sem, outV, ver, r0, r1, r2]; rfl) rfl ⟨by rw [HN.out], ?_⟩
                      exact ((hg.trans g2).setCell (Nat.le_refl _) _).setCell (Nat.le_refl _) _ |>.setCell (Nat.le_refl _) _
          · have hn8 : ((l.length : Int) - ((j : Int) + 2) != 8) = true := by rw [bne_iff_ne]; omega
            have HD0 := Lib.hid (show docUnsF l = none by unfold docUnsF; rw [HS.out]; simp only; rw [if_neg (by omega)])
            clear h8 ho
            go_wp2
            refine bodyPost_ret (v := outV none) (by simp [results, Tryd.results12, go_sem, outV, ver, r0, r1, r2]; rfl) rfl ⟨by rw [HD0.out], ?_⟩
            exact (((Gr.alloc _ _).trans hG2).setCell (Nat.le_refl _) _).setCell (Nat.le_refl _) _ |>.setCell (Nat.le_refl _) _
      · have hx1 : ((l[j].toNat : Int) != 0) = true := by rw [bne_iff_ne]; exact fun e => hx (UInt8.toNat_inj.1 (by exact_mod_cast e))
        have hx2 : ((l[j].toNat : Int) == 0) = false := by rw [beq_eq_false_iff_ne]; exact fun e => hx (UInt8.toNat_inj.1 (by exact_mod_cast e))
        have HN := Lib.hid (show scanL l = ((K ++ [l[j]]) ++ (scanL (l.drop (j + 1))).1, j + 1 + (scanL (l.drop (j + 1))).2) by
          rw [HU.out, HD.out, HD2.out, scanL_other hx]; simp; omega)
        clear hx
        go_wp2_with (at_builtin; go_must (refine wp_append elemB rfl _ _ rfl rfl (ho.gr (Gr.alloc _ _)) rfl (Src.one _ _ l[j] rfl Tryd.underlying25) m1 m2 hbs ?_); intro ad2 cp2 w4 o4 k4 f4)
        have G4 := hg.app ho (Nat.le_refl _) k4
        rw [← bv_append] at o4
        go_roundw
        case rel => exact ⟨j + 1, K ++ [l[j]], ad2, cp2, by omega, by simp; omega, by go_num, by rw [List.length_append]; rfl, by rw [List.length_append]; exact o4, G4, HN.out⟩
        case measure => simp [intOf]; omega
    · have HE := Lib.hid (show scanL (l.drop j) = ([], 0) from scanL_end (by simp; omega))
      have HS := Lib.hid (show scanL l = (K, j) by rw [HU.out, HE.out]; simp)
      generalize wr = W2 at *
      have hG2 := hg
      rw [HW1.out] at hG2
      have hR := Blk.of1 hG2
      obtain ⟨r0, r1, r2, q0, q1, q2⟩ := hR.three
      have h8 : ¬ l.length = j + 10 := by omega
      have hn8 : ((l.length : Int) - ((j : Int) + 2) != 8) = true := by rw [bne_iff_ne]; omega
      have HD0 := Lib.hid (show docUnsF l = none by unfold docUnsF; rw [HS.out]; simp only; rw [if_neg (by omega)])
      clear h8 ho
      go_wp2
      refine bodyPost_ret (v := outV none) (by simp [results, Tryd.results12, go_sem, outV, ver, r0, r1, r2]; rfl) rfl ⟨by rw [HD0.out], ?_⟩
      exact (((Gr.alloc _ _).trans hG2).setCell (Nat.le_refl _) _).setCell (Nat.le_refl _) _ |>.setCell (Nat.le_refl _) _
end Go.Proofs.YtnjnehegfdimaaaDoor
