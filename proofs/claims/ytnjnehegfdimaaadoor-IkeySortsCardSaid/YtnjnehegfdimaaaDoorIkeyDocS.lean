/- Layer 5 (ikey): the reference's DocSortable and DocUnsort. -/
import Derived.Test.YtnjnehegfdimaaaDoorIkeyBack
namespace Go.Proofs.YtnjnehegfdimaaaDoor
set_option linter.unusedVariables false
set_option linter.unusedSimpArgs false
open Go.RowKit Ikey Varint
open Go.Op (bytesLess)
set_option maxRecDepth 100000 in
theorem rDocSortable_no (k : List UInt8) (s d : Int) (w : World) (h : okV k s d = false) :
    Calls Tryd.prog 11 #[ver k s d] w fun e w' => e = .returned (.tuple #[.string (str []), .int .i64 1]) ∧ Gr w w' := by
  have HC := Lib.hid (fun w => rRight_any k s d w)
  rw [h] at HC
  unfold ver at HC ⊢
  go_enter Tryd.func11, Tryd.ntmps11
  go_wp2_with (go_at_call 21; refine (HC.out _).mono ?_; rintro e w1 ⟨rfl, g1⟩; obtain ⟨c0, c1, c2⟩ := g1.box3)
  go_ret2
  exact ⟨rfl, (Gr.alloc _ _).trans g1⟩
theorem escF_take (k : List UInt8) (j : Nat) (h : j < k.length) : escF (k.take (j + 1)) = escF (k.take j) ++ escF [k[j]] := by
  rw [List.take_succ_eq_append_getElem h, escF_append]
set_option maxRecDepth 100000 in
set_option maxHeartbeats 4000000 in
theorem rDocSortable_yes (k : List UInt8) (s d : Nat) (w : World) (h : okV k s d = true) :
    Calls Tryd.prog 11 #[ver k s d] w fun e w' => e = .returned (.tuple #[.string (str (sortF k s d)), .int .i64 0]) ∧ Gr w w' := by
  obtain ⟨hk0, hk, _, hs, hd⟩ := okV_of h
  obtain ⟨hs', hd', hT⟩ := okV_trail h
  have HC := Lib.hid (fun w => rRight_any k s d w)
  rw [h] at HC
  unfold ver at HC ⊢
  have HE := Lib.hid (show sortF k s d = escF k ++ [0, 0] ++ (topF 7 s 7).map inv8 ++ [inv8 (UInt8.ofNat d)] by unfold sortF; rw [tailF_parts s d hd']; simp)
  have hel := escF_len k
  obtain ⟨W1, hW1⟩ : ∃ W1, W1 = w.alloc (.cells #[.string (str k), .int .i64 (s : Int), .int .i64 (d : Int)] 23) := ⟨_, rfl⟩
  have HW1 := Lib.hid hW1
  clear h hk0 hs hd hT
  go_enter Tryd.func11, Tryd.ntmps11
  go_wp2_with (go_at_call 21; refine (HC.out _).mono ?_; rintro e w1 ⟨rfl, g1⟩; obtain ⟨c0, c1, c2⟩ := g1.box3)
  rw [← hW1] at g1
  have HG1 := Lib.hid g1
  clear g1 c0 c1 c2 hW1
  go_loopw [4, 5] (fun v i wr => ∃ (j : Nat) (ad : Option Addr) (cp : Nat), j ≤ k.length ∧ i = .int .i64 (j : Int) ∧ v = .slice ad (escF (k.take j)).length cp ∧ Owns wr W1.heap.size 5 1 ad cp (escF (k.take j)).length (bv (escF (k.take j))) ∧ Gr W1 wr) (fun _ i _ => k.length - (intOf i).toNat)
  case atStart => exact ⟨0, none, 0, Nat.zero_le _, rfl, rfl, Owns.empty _ _ _ _, HG1.out⟩
  case round =>
    clear HG1
    obtain ⟨j, ad, cp, hj, rfl, rfl, ho, hg⟩ := hrel
    have hgb := hg
    rw [HW1.out] at hgb
    obtain ⟨c0, c1, c2⟩ := hgb.box3
    by_cases hjk : j < k.length
    · have hlj := escF_len (k.take j)
      have htl : (k.take j).length ≤ j := List.length_take_le _ _
      have HT := Lib.hid (escF_take k j hjk)
      have hby := byte_hi k[j]
      obtain ⟨E, hE⟩ : ∃ E, E = escF (k.take j) := ⟨_, rfl⟩
      rw [← hE] at ho hlj HT ⊢
      have m1 : E.length + 1 ≤ maxLen := by unfold maxLen; omega
      have m2 : (E.length + 1) * 1 ≤ 140737488355328 := by omega
      have m3 : E.length + 1 + 1 ≤ maxLen := by unfold maxLen; omega
      have m4 : (E.length + 1 + 1) * 1 ≤ 140737488355328 := by omega
      have hbs : W1.heap.size ≤ (wr.alloc (.cells #[.int .u8 (k[j].toNat : Int)] 5)).heap.size := Nat.le_trans hg.size (Gr.alloc _ _).size
      clear hE hgb htl
      by_cases hx0 : k[j] = 0
      · have hxb : ((k[j].toNat : Int) == 0) = true := by rw [hx0]; rfl
        have hT2 := HT.out
        rw [hx0] at hT2
        have HT2 := Lib.hid hT2
        have HX0 := Lib.hid hx0
        have T0 : RowKit.Hid True := trivial
        clear hx0 hT2
        go_wp2_with (first
          | (at_builtin; clear T0; go_must (refine wp_append elemB rfl _ _ rfl rfl (ho.gr (Gr.alloc _ _)) rfl (Src.one _ _ k[j] rfl Tryd.underlying25) m1 m2 hbs ?_); intro ad2 cp2 w4 o4 k4 f4
             have T1 : RowKit.Hid True := trivial
             have G4 := hg.app ho (Nat.le_refl _) k4
             have G4' := G4
             rw [HW1.out] at G4'
             obtain ⟨e0, e1, e2⟩ := G4'.box3
             have hbs2 : W1.heap.size ≤ (w4.alloc (.cells #[.int .u8 255] 5)).heap.size := Nat.le_trans G4.size (Gr.alloc _ _).size)
          | (at_builtin; clear T1; go_must (refine wp_append elemB rfl _ _ rfl rfl (o4.gr (Gr.alloc _ _)) rfl (Src.one _ _ 255 rfl Tryd.underlying25) m3 m4 hbs2 ?_); intro ad3 cp3 w5 o5 k5 f5)
          | fail)
        have G5 := G4.app o4 (Nat.le_refl _) k5
        rw [← bv_append, ← bv_append, HX0.out] at o5
        have HT3 := Lib.hid (show escF (k.take (j + 1)) = E ++ [0] ++ [255] by rw [HT2.out, escF_zero]; simp [escF])
        go_roundw
        case rel => exact ⟨j + 1, ad3, cp3, hjk, by go_num, by rw [HT3.out, List.length_append, List.length_append]; rfl, by rw [HT3.out, List.length_append, List.length_append]; exact o5, G5⟩
        case measure => simp [intOf]; omega
      · have hxb : ((k[j].toNat : Int) == 0) = false := by rw [beq_eq_false_iff_ne]; exact fun e => hx0 (UInt8.toNat_inj.1 (by exact_mod_cast e))
        have HT2 := Lib.hid (show escF (k.take (j + 1)) = E ++ [k[j]] by rw [HT.out, escF_other hx0]; rfl)
        clear hx0
        go_wp2_with (at_builtin; go_must (refine wp_append elemB rfl _ _ rfl rfl (ho.gr (Gr.alloc _ _)) rfl (Src.one _ _ k[j] rfl Tryd.underlying25) m1 m2 hbs ?_); intro ad2 cp2 w4 o4 k4 f4
                     have G4 := hg.app ho (Nat.le_refl _) k4
                     have G4' := G4
                     rw [HW1.out] at G4'
                     obtain ⟨e0, e1, e2⟩ := G4'.box3)
        rw [← bv_append] at o4
        go_roundw
        case rel => exact ⟨j + 1, ad2, cp2, hjk, by go_num, by rw [HT2.out, List.length_append]; rfl, by rw [HT2.out, List.length_append]; exact o4, G4⟩
        case measure => simp [intOf]; omega
    · obtain rfl : j = k.length := by omega
      rw [List.take_length] at ho ⊢
      obtain ⟨E, hE⟩ : ∃ E, E = escF k := ⟨_, rfl⟩
      rw [← hE] at ho hel HE ⊢
      have m1 : E.length + 2 ≤ maxLen := by unfold maxLen; omega
      have m2 : (E.length + 2) * 1 ≤ 140737488355328 := by omega
      have hbs : W1.heap.size ≤ (wr.alloc (.cells #[.int .u8 0, .int .u8 0] 5)).heap.size := Nat.le_trans hg.size (Gr.alloc _ _).size
      clear hE hgb
      go_wp2_with (first
        | (at_builtin; go_must (refine wp_append elemB rfl _ _ rfl rfl (ho.gr (Gr.alloc _ _)) rfl (Src.two _ _ _ 0 0 rfl rfl Tryd.underlying25) m1 m2 hbs ?_); intro ad4 cp4 w4 o4 k4 f4)
        | fail)
      have G4 := hg.app ho (Nat.le_refl _) k4
      rw [← bv_append] at o4
      have HO4 := Lib.hid (show Owns w4 W1.heap.size 5 1 ad4 cp4 (E.length + 2 + (7 - 7)) (bv (E ++ [0, 0] ++ (topF 7 s (7 - 7)).map inv8)) from by
        have e0 : (topF 7 s (7 - 7)).map inv8 = [] := rfl
        rw [e0, List.append_nil]; exact o4)
      have HG4 := Lib.hid G4
      clear o4 k4 f4 ho hg c0 c1 c2 G4
      go_loopw [4, 6] (fun v i wr => ∃ (m : Nat) (ad : Option Addr) (cp : Nat), m ≤ 7 ∧ i = .int .i64 ((m : Int) - 1) ∧ v = .slice ad (E.length + 2 + (7 - m)) cp ∧ Owns wr W1.heap.size 5 1 ad cp (E.length + 2 + (7 - m)) (bv (E ++ [0, 0] ++ (topF 7 s (7 - m)).map inv8)) ∧ Gr W1 wr) (fun _ i _ => (intOf i + 1).toNat)
      case atStart => exact ⟨7, ad4, cp4, Nat.le_refl _, rfl, rfl, HO4.out, HG4.out⟩
      case round =>
        clear HO4 HG4
        obtain ⟨m, ad, cp, hm, rfl, rfl, ho, hg⟩ := hrel
        have hgb := hg
        rw [HW1.out] at hgb
        obtain ⟨c0, c1, c2⟩ := hgb.box3
        by_cases h1 : 1 ≤ m
        · obtain ⟨q, rfl⟩ : ∃ q, m = q + 1 := ⟨m - 1, by omega⟩
          have eq1 : ((q + 1 : Nat) : Int) - 1 = (q : Int) := by omega
          rw [eq1]
          have hq7 : q < 7 := by omega
          have HX := Lib.hid (show (255 : Int) - (s : Int) / 2 ^ (8 * q) % 256 = ((inv8 (UInt8.ofNat (s / 256 ^ q))).toNat : Int) by
            have : (s : Int) / 2 ^ (8 * q) = ((s / 256 ^ q : Nat) : Int) := by rw [pow256]; simp
            rw [this, inv8_nat, UInt8.toNat_ofNat']; omega)
          have htop : (topF 7 s (7 - q)).map inv8 = (topF 7 s (7 - (q + 1))).map inv8 ++ [inv8 (UInt8.ofNat (s / 256 ^ q))] := by
            rw [show 7 - q = (7 - (q + 1)) + 1 by omega, topF_step, show 7 - 1 - (7 - (q + 1)) = q by omega, List.map_append]; rfl
          have HT2 := Lib.hid htop
          have hlen : E.length + 2 + (7 - (q + 1)) + 1 = E.length + 2 + (7 - q) := by omega
          have m3 : E.length + 2 + (7 - (q + 1)) + 1 ≤ maxLen := by unfold maxLen; omega
          have m4 : (E.length + 2 + (7 - (q + 1)) + 1) * 1 ≤ 140737488355328 := by omega
          obtain ⟨nn, hnn⟩ : ∃ nn, nn = E.length + 2 + (7 - (q + 1)) := ⟨_, rfl⟩
          rw [← hnn] at ho hlen m3 m4 ⊢
          have HL2 := Lib.hid hlen
          clear hnn htop hlen eq1 hgb
          have hbs : W1.heap.size ≤ (wr.alloc (.cells #[.int .u8 ((255 : Int) - (s : Int) / 2 ^ (8 * q) % 256)] 5)).heap.size := Nat.le_trans hg.size (Gr.alloc _ _).size
          go_wp2_with (at_builtin; go_must (refine wp_append elemB rfl _ _ rfl rfl (ho.gr (Gr.alloc _ _)) rfl (Src.one _ _ (inv8 (UInt8.ofNat (s / 256 ^ q))) HX.out Tryd.underlying25) m3 m4 hbs ?_); intro ad2 cp2 w4 o4 k4 f4
                       have G4 := hg.app ho (Nat.le_refl _) k4
                       have G4' := G4
                       rw [HW1.out] at G4'
                       obtain ⟨e0, e1, e2⟩ := G4'.box3)
          have o4' := o4
          rw [← bv_append, List.append_assoc, ← HT2.out, HL2.out] at o4'
          have HO4 := Lib.hid o4'
          have HG4 := Lib.hid G4
          clear o4 o4' k4 f4 ho hg G4
          rw [HL2.out]
          go_roundw
          case rel => exact ⟨q, ad2, cp2, by omega, by go_num, rfl, HO4.out, HG4.out⟩
          case measure => simp [intOf]
        · obtain rfl : m = 0 := by omega
          have hid := byte_hi (inv8 (UInt8.ofNat d))
          have HXd := Lib.hid (show (255 : Int) - (d : Int) = ((inv8 (UInt8.ofNat d)).toNat : Int) by
            rw [inv8_nat, UInt8.toNat_ofNat']; omega)
          obtain ⟨nn, hnn⟩ : ∃ nn, nn = E.length + 2 + (7 - 0) := ⟨_, rfl⟩
          rw [← hnn, show 7 - 0 = 7 from rfl] at ho
          rw [← hnn]
          have m3 : nn + 1 ≤ maxLen := by unfold maxLen; omega
          have m4 : (nn + 1) * 1 ≤ 140737488355328 := by omega
          have hLF := Lib.hid (show (sortF k s d).length = nn + 1 by rw [HE.out, hnn]; simp [topF_len])
          have hbs : W1.heap.size ≤ (wr.alloc (.cells #[.int .u8 ((255 : Int) - (d : Int))] 5)).heap.size := Nat.le_trans hg.size (Gr.alloc _ _).size
          clear hnn hgb
          go_wp2_with (at_builtin; go_must (refine wp_append elemB rfl _ _ rfl rfl (ho.gr (Gr.alloc _ _)) rfl (Src.one _ _ (inv8 (UInt8.ofNat d)) HXd.out Tryd.underlying25) m3 m4 hbs ?_); intro ad2 cp2 w4 o4 k4 f4
                       have G4 := hg.app ho (Nat.le_refl _) k4
                       rw [← bv_append, ← HE.out] at o4
                       have hst := run_string (P := Tryd.prog) Tryd.underlying25 Tryd.underlying5 Tryd.underlying9 (cap := cp2) (len := nn + 1) hLF.out o4.bytes)
          go_ret2
          rw [HW1.out] at G4
          exact ⟨rfl, (Gr.alloc _ _).trans G4⟩
end Go.Proofs.YtnjnehegfdimaaaDoor
